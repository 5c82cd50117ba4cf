import Derived.Test.YtgjglkogengmbaaXEnv
set_option linter.unusedVariables false
namespace Go.Proofs.Ytgjglkogengmbaa.Ev
open Go Go.RowKit
def sc0 : ByteArray := ⟨#[0, 1, 2, 2, 3, 3, 3, 3, 4, 4, 4, 4, 4, 4, 4, 4, 5, 5, 5, 5, 5, 5, 5, 5, 5, 5, 5, 5, 5, 5, 5, 5, 6, 6, 6, 6, 6, 6, 6, 6, 6, 6, 6, 6, 6, 6, 6, 6, 6, 6, 6, 6, 6, 6, 6, 6, 6, 6, 6, 6, 6, 6, 6, 6, 7, 7, 7, 7, 7, 7, 7, 7, 7, 7, 7, 7, 7, 7, 7, 7, 7, 7, 7, 7, 7, 7, 7, 7, 7, 7, 7, 7, 7, 7, 7, 7, 7, 7, 7, 7, 7, 7, 7, 7, 7, 7, 7, 7, 7, 7, 7, 7, 7, 7, 7, 7, 7, 7, 7, 7, 7, 7, 7, 7, 7, 7, 7, 7, 8, 8, 8, 8, 8, 8, 8, 8, 8, 8, 8, 8, 8, 8, 8, 8, 8, 8, 8, 8, 8, 8, 8, 8, 8, 8, 8, 8, 8, 8, 8, 8, 8, 8, 8, 8, 8, 8, 8, 8, 8, 8, 8, 8, 8, 8, 8, 8, 8, 8, 8, 8, 8, 8, 8, 8, 8, 8, 8, 8, 8, 8, 8, 8, 8, 8, 8, 8, 8, 8, 8, 8, 8, 8, 8, 8, 8, 8, 8, 8, 8, 8, 8, 8, 8, 8, 8, 8, 8, 8, 8, 8, 8, 8, 8, 8, 8, 8, 8, 8, 8, 8, 8, 8, 8, 8, 8, 8, 8, 8, 8, 8, 8, 8, 8, 8, 8, 8, 8, 8, 8, 8, 8, 8, 8, 8, 8, 8]⟩
/- (*chicane/fx.M).bound -/
abbrev A40_0 : Type := Bool × Bool
abbrev R40_0 : Type := Int × Bool
def v40_0 : Pk G (Bool × Bool) := (pk (Sh.snd (Sh.cons (Sh.ptr 0 0) (Sh.fst (Sh.cons Sh.bool Sh.nil)))) (Sh.fst (Sh.hfix 0 44 (Sh.fst (Sh.cons Sh.bool Sh.nil)) Sh.hnil)))
def w40_0 : Wk G (Int × Bool) := (Wk.one [.keep] (pk (Sh.fst (Sh.cons (Sh.int .i64) Sh.nil)) (Sh.fst (Sh.hfix 0 44 (Sh.fst (Sh.cons Sh.bool Sh.nil)) Sh.hnil))))
def F40_0 (v : Bool × Bool) : Option (Int × Bool) :=
  bif v.1 then
    some ((-9223372036854775808 : Int), true)
  else
    some ((9223372036854775807 : Int), true)

noncomputable def k40_0 : List (Known Try.prog E) := []
noncomputable def L40_0 (n id : Nat) (st : St G) : Option (Int × Bool) := none
set_option maxRecDepth 100000 in
theorem e40_0 (n : Nat) (v : Bool × Bool) : ev Try.prog E (oracle k40_0) Try.f40.ntmps (fun x => mem x []) (L40_0 n) (finA Try.prog E Try.f40.results.toList [(.ptr 0 0 44 [.keep])] w40_0.alts) 4000 [.code (Try.f40.body.getD .skip)] (argSt (v40_0.enc v)) = F40_0 v := by kernel_rfl
theorem ok40_0 : FnOk Try.prog E 40 v40_0.enc F40_0 w40_0.enc :=
  fn_known (fn := Try.f40) (c := (Try.f40.body.getD .skip)) Try.func40 (by kernel_rfl) rfl envOk (oracle_ok k40_0) mixed v40_0 F40_0 w40_0 [(.ptr 0 0 44 [.keep])] [] 4000 L40_0 (by kernel_rfl)
    (fun _ h => nomatch h) (fun v _ h => ⟨0, (e40_0 _ v).trans h⟩) (fun _ => by kernel_rfl) (fun _ => by kernel_rfl) (fun _ _ => by kernel_rfl)
/- (*chicane/fx.M).nought -/
abbrev A65_0 : Type := Int × Bool
abbrev R65_0 : Type := Int × Bool
def v65_0 : Pk G (Int × Bool) := (pk (Sh.snd (Sh.cons (Sh.ptr 0 0) (Sh.fst (Sh.cons (Sh.int .i64) Sh.nil)))) (Sh.fst (Sh.hfix 0 44 (Sh.fst (Sh.cons Sh.bool Sh.nil)) Sh.hnil)))
def w65_0 : Wk G (Int × Bool) := (Wk.one [.keep] (pk (Sh.fst (Sh.cons (Sh.int .i64) Sh.nil)) (Sh.fst (Sh.hfix 0 44 (Sh.fst (Sh.cons Sh.bool Sh.nil)) Sh.hnil))))
def F65_0 (v : Int × Bool) : Option (Int × Bool) :=
  (F40_0 ((decide (v.1 < (0 : Int))), v.2)).bind fun r5 =>
  bif (v.1 == (0 : Int)) then
    some ((0 : Int), r5.2)
  else
    some (r5)

noncomputable def k65_0 : List (Known Try.prog E) := [Known.of envOk [5, 2] [(.ptr 0 0 44 [.keep]), .keep] v40_0 F40_0 w40_0 ok40_0]
noncomputable def L65_0 (n id : Nat) (st : St G) : Option (Int × Bool) := none
set_option maxRecDepth 100000 in
theorem e65_0 (n : Nat) (v : Int × Bool) : ev Try.prog E (oracle k65_0) Try.f65.ntmps (fun x => mem x []) (L65_0 n) (finA Try.prog E Try.f65.results.toList [(.ptr 0 0 44 [.keep])] w65_0.alts) 4000 [.code (Try.f65.body.getD .skip)] (argSt (v65_0.enc v)) = F65_0 v := by kernel_rfl
theorem ok65_0 : FnOk Try.prog E 65 v65_0.enc F65_0 w65_0.enc :=
  fn_known (fn := Try.f65) (c := (Try.f65.body.getD .skip)) Try.func65 (by kernel_rfl) rfl envOk (oracle_ok k65_0) mixed v65_0 F65_0 w65_0 [(.ptr 0 0 44 [.keep])] [] 4000 L65_0 (by kernel_rfl)
    (fun _ h => nomatch h) (fun v _ h => ⟨0, (e65_0 _ v).trans h⟩) (fun _ => by kernel_rfl) (fun _ => by kernel_rfl) (fun _ _ => by kernel_rfl)
/- math/bits.Sub64 -/
abbrev A67_x : Type := Int × Int × Int
abbrev R67_x : Type := Int × Int
def v67_x : Pk G (Int × Int × Int) := p3u
def w67_x : Wk G (Int × Int) := Wk.one [.keep, .keep] p2u
def F67_x (v : Int × Int × Int) : Option (Int × Int) := sub64F v
theorem ok67_x : FnOk Try.prog E 67 v67_x.enc F67_x w67_x.enc := sub64_known Try.func67 (by kernel_rfl) (by kernel_rfl) (by kernel_rfl) (by kernel_rfl)
/- chicane/wide.sized -/
abbrev A69_0 : Type := Int × Int
abbrev R69_0 : Type := (Int × Int) × Bool
def v69_0 : Pk G (Int × Int) := (Pk.fst (pk (Sh.fst (Sh.cons (Sh.agg (Sh.cons (Sh.int .i64) (Sh.fst (Sh.cons (Sh.int .u64) Sh.nil)))) Sh.nil)) Sh.hnil))
def w69_0 : Wk G ((Int × Int) × Bool) := (Wk.one [(.agg [.keep, .keep]), .keep] (Pk.fst (pk (Sh.cons (Sh.agg (Sh.cons (Sh.int .u64) (Sh.fst (Sh.cons (Sh.int .u64) Sh.nil)))) (Sh.fst (Sh.cons Sh.bool Sh.nil))) Sh.hnil)))
def F69_0 (v : Int × Int) : Option ((Int × Int) × Bool) :=
  bif (decide (v.1 ≥ (0 : Int))) then
    let x18 : Int := (IntKind.wrap .u64 v.1)
    some ((x18, v.2), false)
  else
    (F67_x ((0 : Int), (v.2, (0 : Int)))).bind fun r19 =>
    let x20 : Int := (IntKind.wrap .u64 v.1)
    (F67_x ((0 : Int), (x20, r19.2))).bind fun r21 =>
    some ((r21.1, r19.1), true)

noncomputable def k69_0 : List (Known Try.prog E) := [Known.of envOk [1, 1, 1] [.keep, .keep, .keep] v67_x F67_x w67_x ok67_x]
noncomputable def L69_0 (n id : Nat) (st : St G) : Option ((Int × Int) × Bool) := none
set_option maxRecDepth 100000 in
theorem e69_0 (n : Nat) (v : Int × Int) : ev Try.prog E (oracle k69_0) Try.f69.ntmps (fun x => mem x []) (L69_0 n) (finA Try.prog E Try.f69.results.toList [] w69_0.alts) 4000 [.code (Try.f69.body.getD .skip)] (argSt (v69_0.enc v)) = F69_0 v := by kernel_rfl
theorem ok69_0 : FnOk Try.prog E 69 v69_0.enc F69_0 w69_0.enc :=
  fn_known (fn := Try.f69) (c := (Try.f69.body.getD .skip)) Try.func69 (by kernel_rfl) rfl envOk (oracle_ok k69_0) mixed v69_0 F69_0 w69_0 [] [] 4000 L69_0 (by kernel_rfl)
    (fun _ h => nomatch h) (fun v _ h => ⟨0, (e69_0 _ v).trans h⟩) (fun _ => by kernel_rfl) (fun _ => by kernel_rfl) (fun _ _ => by kernel_rfl)
/- math/bits.Len64 -/
abbrev A72_0 : Type := Int
abbrev R72_0 : Type := Int
def v72_0 : Pk G Int := (Pk.fst (pk (Sh.fst (Sh.cons (Sh.int .u64) Sh.nil)) Sh.hnil))
def w72_0 : Wk G Int := (Wk.one [.keep] (Pk.fst (pk (Sh.fst (Sh.cons (Sh.int .i64) Sh.nil)) Sh.hnil)))
def F72_0 (v : Int) : Option Int :=
  bif (decide (v ≥ (4294967296 : Int))) then
    let x105 : Int := (Int.fdiv v (2 ^ 32))
    bif (decide (x105 ≥ (65536 : Int))) then
      let x106 : Int := (Int.fdiv x105 (2 ^ 16))
      bif (decide (x106 ≥ (256 : Int))) then
        let x107 : Int := (Int.fdiv x106 (2 ^ 8))
        let x108 : Int := (IntKind.wrap .u8 x107)
        (rdb sc0 x108).bind fun (x109 : UInt8) =>
        let x110 : Int := (IntKind.wrap .i64 (x109.toNat : Int))
        let x111 : Int := (IntKind.wrap .i64 ((56 : Int) + x110))
        some (x111)
      else
        let x112 : Int := (IntKind.wrap .u8 x106)
        (rdb sc0 x112).bind fun (x113 : UInt8) =>
        let x114 : Int := (IntKind.wrap .i64 (x113.toNat : Int))
        let x115 : Int := (IntKind.wrap .i64 ((48 : Int) + x114))
        some (x115)
    else
      bif (decide (x105 ≥ (256 : Int))) then
        let x116 : Int := (Int.fdiv x105 (2 ^ 8))
        let x117 : Int := (IntKind.wrap .u8 x116)
        (rdb sc0 x117).bind fun (x118 : UInt8) =>
        let x119 : Int := (IntKind.wrap .i64 (x118.toNat : Int))
        let x120 : Int := (IntKind.wrap .i64 ((40 : Int) + x119))
        some (x120)
      else
        let x121 : Int := (IntKind.wrap .u8 x105)
        (rdb sc0 x121).bind fun (x122 : UInt8) =>
        let x123 : Int := (IntKind.wrap .i64 (x122.toNat : Int))
        let x124 : Int := (IntKind.wrap .i64 ((32 : Int) + x123))
        some (x124)
  else
    bif (decide (v ≥ (65536 : Int))) then
      let x125 : Int := (Int.fdiv v (2 ^ 16))
      bif (decide (x125 ≥ (256 : Int))) then
        let x126 : Int := (Int.fdiv x125 (2 ^ 8))
        let x127 : Int := (IntKind.wrap .u8 x126)
        (rdb sc0 x127).bind fun (x128 : UInt8) =>
        let x129 : Int := (IntKind.wrap .i64 (x128.toNat : Int))
        let x130 : Int := (IntKind.wrap .i64 ((24 : Int) + x129))
        some (x130)
      else
        let x131 : Int := (IntKind.wrap .u8 x125)
        (rdb sc0 x131).bind fun (x132 : UInt8) =>
        let x133 : Int := (IntKind.wrap .i64 (x132.toNat : Int))
        let x134 : Int := (IntKind.wrap .i64 ((16 : Int) + x133))
        some (x134)
    else
      bif (decide (v ≥ (256 : Int))) then
        let x135 : Int := (Int.fdiv v (2 ^ 8))
        let x136 : Int := (IntKind.wrap .u8 x135)
        (rdb sc0 x136).bind fun (x137 : UInt8) =>
        let x138 : Int := (IntKind.wrap .i64 (x137.toNat : Int))
        let x139 : Int := (IntKind.wrap .i64 ((8 : Int) + x138))
        some (x139)
      else
        let x140 : Int := (IntKind.wrap .u8 v)
        (rdb sc0 x140).bind fun (x141 : UInt8) =>
        let x142 : Int := (IntKind.wrap .i64 (x141.toNat : Int))
        let x143 : Int := (IntKind.wrap .i64 ((0 : Int) + x142))
        some (x143)

noncomputable def k72_0 : List (Known Try.prog E) := []
noncomputable def L72_0 (n id : Nat) (st : St G) : Option Int := none
set_option maxRecDepth 100000 in
theorem e72_0 (n : Nat) (v : Int) : ev Try.prog E (oracle k72_0) Try.f72.ntmps (fun x => mem x []) (L72_0 n) (finA Try.prog E Try.f72.results.toList [] w72_0.alts) 4000 [.code (Try.f72.body.getD .skip)] (argSt (v72_0.enc v)) = F72_0 v := by kernel_rfl
theorem ok72_0 : FnOk Try.prog E 72 v72_0.enc F72_0 w72_0.enc :=
  fn_known (fn := Try.f72) (c := (Try.f72.body.getD .skip)) Try.func72 (by kernel_rfl) rfl envOk (oracle_ok k72_0) mixed v72_0 F72_0 w72_0 [] [] 4000 L72_0 (by kernel_rfl)
    (fun _ h => nomatch h) (fun v _ h => ⟨0, (e72_0 _ v).trans h⟩) (fun _ => by kernel_rfl) (fun _ => by kernel_rfl) (fun _ _ => by kernel_rfl)
/- math/bits.LeadingZeros64 -/
abbrev A71_0 : Type := Int
abbrev R71_0 : Type := Int
def v71_0 : Pk G Int := (Pk.fst (pk (Sh.fst (Sh.cons (Sh.int .u64) Sh.nil)) Sh.hnil))
def w71_0 : Wk G Int := (Wk.one [.keep] (Pk.fst (pk (Sh.fst (Sh.cons (Sh.int .i64) Sh.nil)) Sh.hnil)))
def F71_0 (v : Int) : Option Int :=
  (F72_0 v).bind fun r148 =>
  let x149 : Int := (IntKind.wrap .i64 ((64 : Int) - r148))
  some (x149)

noncomputable def k71_0 : List (Known Try.prog E) := [Known.of envOk [1] [.keep] v72_0 F72_0 w72_0 ok72_0]
noncomputable def L71_0 (n id : Nat) (st : St G) : Option Int := none
set_option maxRecDepth 100000 in
theorem e71_0 (n : Nat) (v : Int) : ev Try.prog E (oracle k71_0) Try.f71.ntmps (fun x => mem x []) (L71_0 n) (finA Try.prog E Try.f71.results.toList [] w71_0.alts) 4000 [.code (Try.f71.body.getD .skip)] (argSt (v71_0.enc v)) = F71_0 v := by kernel_rfl
theorem ok71_0 : FnOk Try.prog E 71 v71_0.enc F71_0 w71_0.enc :=
  fn_known (fn := Try.f71) (c := (Try.f71.body.getD .skip)) Try.func71 (by kernel_rfl) rfl envOk (oracle_ok k71_0) mixed v71_0 F71_0 w71_0 [] [] 4000 L71_0 (by kernel_rfl)
    (fun _ h => nomatch h) (fun v _ h => ⟨0, (e71_0 _ v).trans h⟩) (fun _ => by kernel_rfl) (fun _ => by kernel_rfl) (fun _ _ => by kernel_rfl)
/- math/bits.Div64 -/
abbrev A70_0 : Type := Int × Int × Int
abbrev R70_0 : Type := Int × Int
def v70_0 : Pk G (Int × Int × Int) := (Pk.fst (pk (Sh.cons (Sh.int .u64) (Sh.cons (Sh.int .u64) (Sh.fst (Sh.cons (Sh.int .u64) Sh.nil)))) Sh.hnil))
def w70_0 : Wk G (Int × Int) := (Wk.one [.keep, .keep] (Pk.fst (pk (Sh.cons (Sh.int .u64) (Sh.fst (Sh.cons (Sh.int .u64) Sh.nil))) Sh.hnil)))
def c70_0_17 : Pk G (Int × Int × Int × Int × Int × Int × Int × Int × Int) := (Pk.fst (pk (Sh.cons (Sh.int .u64) (Sh.cons (Sh.int .u64) (Sh.cons (Sh.int .u64) (Sh.cons (Sh.int .u64) (Sh.cons (Sh.int .u64) (Sh.cons (Sh.int .u64) (Sh.cons (Sh.int .u64) (Sh.cons (Sh.int .u64) (Sh.fst (Sh.cons (Sh.int .u64) Sh.nil)))))))))) Sh.hnil))
def c70_0_24 : Pk G (Int × Int × Int × Int × Int × Int × Int × Int × Int) := (Pk.fst (pk (Sh.cons (Sh.int .u64) (Sh.cons (Sh.int .u64) (Sh.cons (Sh.int .u64) (Sh.cons (Sh.int .u64) (Sh.cons (Sh.int .u64) (Sh.cons (Sh.int .u64) (Sh.cons (Sh.int .u64) (Sh.cons (Sh.int .u64) (Sh.fst (Sh.cons (Sh.int .u64) Sh.nil)))))))))) Sh.hnil))
def B70_0_17 (K : ((Int × Int × Int × Int × Int × Int × Int × Int × Int) → Option (Int × Int)) × ((Int × Int × Int × Int × Int × Int × Int × Int × Int) → Option (Int × Int))) (v : Int × Int × Int × Int × Int × Int × Int × Int × Int) : Option (Int × Int) :=
  bif (decide (v.2.2.2.2.2.2.2.1 ≥ (4294967296 : Int))) then
    let x444 : Int := (IntKind.wrap .u64 (v.2.2.2.2.2.2.2.1 - (1 : Int)))
    let x445 : Int := (IntKind.wrap .u64 (v.2.2.2.2.2.2.2.2 + v.2.2.1))
    bif (decide (x445 ≥ (4294967296 : Int))) then
      let x446 : Int := (IntKind.wrap .u64 (v.2.2.2.2.1 * (4294967296 : Int)))
      let x447 : Int := (IntKind.wrap .u64 (x446 + v.2.2.2.2.2.1))
      let x448 : Int := (IntKind.wrap .u64 (x444 * v.1))
      let x449 : Int := (IntKind.wrap .u64 (x447 - x448))
      (chk (v.2.2.1 != 0)).bind fun _ =>
      let x450 : Int := (IntKind.wrap .u64 (Int.tdiv x449 v.2.2.1))
      let x451 : Int := (IntKind.wrap .u64 (x450 * v.2.2.1))
      let x452 : Int := (IntKind.wrap .u64 (x449 - x451))
      K.2 (v.1, (v.2.1, (v.2.2.1, (v.2.2.2.1, (v.2.2.2.2.2.2.1, (x444, (x452, (x449, x450))))))))
    else
      K.1 (v.1, (v.2.1, (v.2.2.1, (v.2.2.2.1, (v.2.2.2.2.1, (v.2.2.2.2.2.1, (v.2.2.2.2.2.2.1, (x444, x445))))))))
  else
    let x453 : Int := (IntKind.wrap .u64 (v.2.2.2.2.2.2.2.1 * v.2.2.2.1))
    let x454 : Int := (IntKind.wrap .u64 ((4294967296 : Int) * v.2.2.2.2.2.2.2.2))
    let x455 : Int := (IntKind.wrap .u64 (x454 + v.2.2.2.2.2.1))
    bif (decide (x453 > x455)) then
      let x456 : Int := (IntKind.wrap .u64 (v.2.2.2.2.2.2.2.1 - (1 : Int)))
      let x457 : Int := (IntKind.wrap .u64 (v.2.2.2.2.2.2.2.2 + v.2.2.1))
      bif (decide (x457 ≥ (4294967296 : Int))) then
        let x458 : Int := (IntKind.wrap .u64 (v.2.2.2.2.1 * (4294967296 : Int)))
        let x459 : Int := (IntKind.wrap .u64 (x458 + v.2.2.2.2.2.1))
        let x460 : Int := (IntKind.wrap .u64 (x456 * v.1))
        let x461 : Int := (IntKind.wrap .u64 (x459 - x460))
        (chk (v.2.2.1 != 0)).bind fun _ =>
        let x462 : Int := (IntKind.wrap .u64 (Int.tdiv x461 v.2.2.1))
        let x463 : Int := (IntKind.wrap .u64 (x462 * v.2.2.1))
        let x464 : Int := (IntKind.wrap .u64 (x461 - x463))
        K.2 (v.1, (v.2.1, (v.2.2.1, (v.2.2.2.1, (v.2.2.2.2.2.2.1, (x456, (x464, (x461, x462))))))))
      else
        K.1 (v.1, (v.2.1, (v.2.2.1, (v.2.2.2.1, (v.2.2.2.2.1, (v.2.2.2.2.2.1, (v.2.2.2.2.2.2.1, (x456, x457))))))))
    else
      let x465 : Int := (IntKind.wrap .u64 (v.2.2.2.2.1 * (4294967296 : Int)))
      let x466 : Int := (IntKind.wrap .u64 (x465 + v.2.2.2.2.2.1))
      let x467 : Int := (IntKind.wrap .u64 (v.2.2.2.2.2.2.2.1 * v.1))
      let x468 : Int := (IntKind.wrap .u64 (x466 - x467))
      (chk (v.2.2.1 != 0)).bind fun _ =>
      let x469 : Int := (IntKind.wrap .u64 (Int.tdiv x468 v.2.2.1))
      let x470 : Int := (IntKind.wrap .u64 (x469 * v.2.2.1))
      let x471 : Int := (IntKind.wrap .u64 (x468 - x470))
      K.2 (v.1, (v.2.1, (v.2.2.1, (v.2.2.2.1, (v.2.2.2.2.2.2.1, (v.2.2.2.2.2.2.2.1, (x471, (x468, x469))))))))

def B70_0_24 (K : ((Int × Int × Int × Int × Int × Int × Int × Int × Int) → Option (Int × Int)) × ((Int × Int × Int × Int × Int × Int × Int × Int × Int) → Option (Int × Int))) (v : Int × Int × Int × Int × Int × Int × Int × Int × Int) : Option (Int × Int) :=
  bif (decide (v.2.2.2.2.2.2.2.2 ≥ (4294967296 : Int))) then
    let x472 : Int := (IntKind.wrap .u64 (v.2.2.2.2.2.2.2.2 - (1 : Int)))
    let x473 : Int := (IntKind.wrap .u64 (v.2.2.2.2.2.2.1 + v.2.2.1))
    bif (decide (x473 ≥ (4294967296 : Int))) then
      let x474 : Int := (IntKind.wrap .u64 (v.2.2.2.2.2.1 * (4294967296 : Int)))
      let x475 : Int := (IntKind.wrap .u64 (x474 + x472))
      let x476 : Int := (IntKind.wrap .u64 (v.2.2.2.2.2.2.2.1 * (4294967296 : Int)))
      let x477 : Int := (IntKind.wrap .u64 (x476 + v.2.2.2.2.1))
      let x478 : Int := (IntKind.wrap .u64 (x472 * v.1))
      let x479 : Int := (IntKind.wrap .u64 (x477 - x478))
      (chk (decide (0 ≤ v.2.1))).bind fun _ =>
      let x480 : Int := (Int.fdiv x479 (2 ^ min (v.2.1).toNat 64))
      some (x475, x480)
    else
      K.2 (v.1, (v.2.1, (v.2.2.1, (v.2.2.2.1, (v.2.2.2.2.1, (v.2.2.2.2.2.1, (x473, (v.2.2.2.2.2.2.2.1, x472))))))))
  else
    let x481 : Int := (IntKind.wrap .u64 (v.2.2.2.2.2.2.2.2 * v.2.2.2.1))
    let x482 : Int := (IntKind.wrap .u64 ((4294967296 : Int) * v.2.2.2.2.2.2.1))
    let x483 : Int := (IntKind.wrap .u64 (x482 + v.2.2.2.2.1))
    bif (decide (x481 > x483)) then
      let x484 : Int := (IntKind.wrap .u64 (v.2.2.2.2.2.2.2.2 - (1 : Int)))
      let x485 : Int := (IntKind.wrap .u64 (v.2.2.2.2.2.2.1 + v.2.2.1))
      bif (decide (x485 ≥ (4294967296 : Int))) then
        let x486 : Int := (IntKind.wrap .u64 (v.2.2.2.2.2.1 * (4294967296 : Int)))
        let x487 : Int := (IntKind.wrap .u64 (x486 + x484))
        let x488 : Int := (IntKind.wrap .u64 (v.2.2.2.2.2.2.2.1 * (4294967296 : Int)))
        let x489 : Int := (IntKind.wrap .u64 (x488 + v.2.2.2.2.1))
        let x490 : Int := (IntKind.wrap .u64 (x484 * v.1))
        let x491 : Int := (IntKind.wrap .u64 (x489 - x490))
        (chk (decide (0 ≤ v.2.1))).bind fun _ =>
        let x492 : Int := (Int.fdiv x491 (2 ^ min (v.2.1).toNat 64))
        some (x487, x492)
      else
        K.2 (v.1, (v.2.1, (v.2.2.1, (v.2.2.2.1, (v.2.2.2.2.1, (v.2.2.2.2.2.1, (x485, (v.2.2.2.2.2.2.2.1, x484))))))))
    else
      let x493 : Int := (IntKind.wrap .u64 (v.2.2.2.2.2.1 * (4294967296 : Int)))
      let x494 : Int := (IntKind.wrap .u64 (x493 + v.2.2.2.2.2.2.2.2))
      let x495 : Int := (IntKind.wrap .u64 (v.2.2.2.2.2.2.2.1 * (4294967296 : Int)))
      let x496 : Int := (IntKind.wrap .u64 (x495 + v.2.2.2.2.1))
      let x497 : Int := (IntKind.wrap .u64 (v.2.2.2.2.2.2.2.2 * v.1))
      let x498 : Int := (IntKind.wrap .u64 (x496 - x497))
      (chk (decide (0 ≤ v.2.1))).bind fun _ =>
      let x499 : Int := (Int.fdiv x498 (2 ^ min (v.2.1).toNat 64))
      some (x494, x499)

def E70_0 (K : ((Int × Int × Int × Int × Int × Int × Int × Int × Int) → Option (Int × Int)) × ((Int × Int × Int × Int × Int × Int × Int × Int × Int) → Option (Int × Int))) (v : Int × Int × Int) : Option (Int × Int) :=
  bif (v.2.2 == (0 : Int)) then
    none
  else
    bif (decide (v.2.2 ≤ v.1)) then
      none
    else
      bif (v.1 == (0 : Int)) then
        (chk (v.2.2 != 0)).bind fun _ =>
        let x427 : Int := (IntKind.wrap .u64 (Int.tdiv v.2.1 v.2.2))
        (chk (v.2.2 != 0)).bind fun _ =>
        let x428 : Int := (Int.tmod v.2.1 v.2.2)
        some (x427, x428)
      else
        (F71_0 v.2.2).bind fun r429 =>
        let x430 : Int := (IntKind.wrap .u64 r429)
        (chk (decide (0 ≤ x430))).bind fun _ =>
        let x431 : Int := (IntKind.wrap .u64 (v.2.2 * 2 ^ min (x430).toNat 64))
        let x432 : Int := (Int.fdiv x431 (2 ^ 32))
        let x433 : Int := (Go.bits .and .u64 x431 (4294967295 : Int))
        (chk (decide (0 ≤ x430))).bind fun _ =>
        let x434 : Int := (IntKind.wrap .u64 (v.1 * 2 ^ min (x430).toNat 64))
        let x435 : Int := (IntKind.wrap .u64 ((64 : Int) - x430))
        (chk (decide (0 ≤ x435))).bind fun _ =>
        let x436 : Int := (Int.fdiv v.2.1 (2 ^ min (x435).toNat 64))
        let x437 : Int := (Go.bits .or .u64 x434 x436)
        (chk (decide (0 ≤ x430))).bind fun _ =>
        let x438 : Int := (IntKind.wrap .u64 (v.2.1 * 2 ^ min (x430).toNat 64))
        let x439 : Int := (Int.fdiv x438 (2 ^ 32))
        let x440 : Int := (Go.bits .and .u64 x438 (4294967295 : Int))
        (chk (x432 != 0)).bind fun _ =>
        let x441 : Int := (IntKind.wrap .u64 (Int.tdiv x437 x432))
        let x442 : Int := (IntKind.wrap .u64 (x441 * x432))
        let x443 : Int := (IntKind.wrap .u64 (x437 - x442))
        K.1 (x431, (x430, (x432, (x433, (x437, (x439, (x440, (x441, x443))))))))

def K70_0 : Nat → ((Int × Int × Int × Int × Int × Int × Int × Int × Int) → Option (Int × Int)) × ((Int × Int × Int × Int × Int × Int × Int × Int × Int) → Option (Int × Int))
  | 0 => (fun _ => none, fun _ => none)
  | n + 1 => (B70_0_17 (K70_0 n), B70_0_24 (K70_0 n))
def fuel70_0 (v : Int × Int × Int) : Nat := 1000
def F70_0 (v : Int × Int × Int) : Option (Int × Int) := E70_0 (K70_0 (fuel70_0 v)) v
noncomputable def k70_0 : List (Known Try.prog E) := [Known.of envOk [1] [.keep] v71_0 F71_0 w71_0 ok71_0]
def s70_0_24 : List (Nat × Pat) := [(2, .keep), (8, .keep), (9, .keep), (10, .keep), (14, .keep), (15, .keep), (16, .keep), (17, .keep), (18, .keep)]
def s70_0_17 : List (Nat × Pat) := [(2, .keep), (8, .keep), (9, .keep), (10, .keep), (11, .keep), (13, .keep), (14, .keep), (15, .keep), (16, .keep)]
noncomputable def L70_0 (n id : Nat) (st : St G) : Option (Int × Int) := match Nat.beq id 17 with | true => cutK Try.prog s70_0_17 [] c70_0_17.dec (K70_0 n).1 st | false => match Nat.beq id 24 with | true => cutK Try.prog s70_0_24 [] c70_0_24.dec (K70_0 n).2 st | false => none
set_option maxRecDepth 100000 in
theorem e70_0 (n : Nat) (v : Int × Int × Int) : ev Try.prog E (oracle k70_0) Try.f70.ntmps (fun x => mem x [17, 24]) (L70_0 n) (finA Try.prog E Try.f70.results.toList [] w70_0.alts) 4000 [.code (Try.f70.body.getD .skip)] (argSt (v70_0.enc v)) = E70_0 (K70_0 n) v := by kernel_rfl
set_option maxRecDepth 100000 in
theorem b70_0_17 (n : Nat) (v : Int × Int × Int × Int × Int × Int × Int × Int × Int) : evCut Try.prog E (oracle k70_0) Try.f70.ntmps (fun x => mem x [17, 24]) (L70_0 n) (finA Try.prog E Try.f70.results.toList [] w70_0.alts) 4000 (todoAt (Try.f70.body.getD .skip) 17) (cutSt s70_0_17 (c70_0_17.enc v)) = B70_0_17 (K70_0 n) v := by kernel_rfl
set_option maxRecDepth 100000 in
theorem b70_0_24 (n : Nat) (v : Int × Int × Int × Int × Int × Int × Int × Int × Int) : evCut Try.prog E (oracle k70_0) Try.f70.ntmps (fun x => mem x [17, 24]) (L70_0 n) (finA Try.prog E Try.f70.results.toList [] w70_0.alts) 4000 (todoAt (Try.f70.body.getD .skip) 24) (cutSt s70_0_24 (c70_0_24.enc v)) = B70_0_24 (K70_0 n) v := by kernel_rfl
theorem ok70_0 : FnOk Try.prog E 70 v70_0.enc F70_0 w70_0.enc :=
  fn_known (fn := Try.f70) (c := (Try.f70.body.getD .skip)) Try.func70 (by kernel_rfl) rfl envOk (oracle_ok k70_0) mixed v70_0 F70_0 w70_0 [] [17, 24] 4000 L70_0 (by kernel_rfl)
    (List.forall_mem_cons.2 ⟨⟨_, s70_0_17, c70_0_17.dec, c70_0_17.enc, fun n => (K70_0 n).1, c70_0_17.ok, fun _ _ => rfl, fun _ => rfl, fun n v _ h => (b70_0_17 n v).trans h⟩, List.forall_mem_cons.2 ⟨⟨_, s70_0_24, c70_0_24.dec, c70_0_24.enc, fun n => (K70_0 n).2, c70_0_24.ok, fun _ _ => rfl, fun _ => rfl, fun n v _ h => (b70_0_24 n v).trans h⟩, fun _ h => (nomatch h)⟩⟩) (fun v _ h => ⟨fuel70_0 v, (e70_0 _ v).trans h⟩) (fun _ => by kernel_rfl) (fun _ => by kernel_rfl) (fun _ _ => by kernel_rfl)
/- chicane/wide.Div -/
abbrev A66_0 : Type := (Int × Int) × Int
abbrev R66_0 : Type := Int × Bool
def v66_0 : Pk G ((Int × Int) × Int) := (Pk.fst (pk (Sh.cons (Sh.agg (Sh.cons (Sh.int .i64) (Sh.fst (Sh.cons (Sh.int .u64) Sh.nil)))) (Sh.fst (Sh.cons (Sh.int .i64) Sh.nil))) Sh.hnil))
def w66_0 : Wk G (Int × Bool) := (Wk.one [.keep, .keep] (Pk.fst (pk (Sh.cons (Sh.int .i64) (Sh.fst (Sh.cons Sh.bool Sh.nil))) Sh.hnil)))
def F66_0 (v : (Int × Int) × Int) : Option (Int × Bool) :=
  (F69_0 v.1).bind fun r623 =>
  let x624 : Int := (IntKind.wrap .u64 v.2)
  bif (decide (v.2 < (0 : Int))) then
    let x625 : Int := (IntKind.wrap .u64 (0 - x624))
    bif (decide (r623.1.1 ≥ x625)) then
      some ((0 : Int), false)
    else
      (F70_0 (r623.1.1, (r623.1.2, x625))).bind fun r626 =>
      let x627 : Int := (IntKind.wrap .u64 (x625 - r626.2))
      bif (decide (r626.2 > x627)) then
        bif (decide (r626.2 > (0 : Int))) then
          let x628 : Int := (IntKind.wrap .u64 (r626.1 + (1 : Int)))
          bif (x628 == (0 : Int)) then
            some ((0 : Int), false)
          else
            bif (!r623.2) then
              bif (decide (x628 ≤ (9223372036854775808 : Int))) then
                let x629 : Int := (IntKind.wrap .u64 (0 - x628))
                let x630 : Int := (IntKind.wrap .i64 x629)
                some (x630, true)
              else
                bif (!(!r623.2)) then
                  bif (decide (x628 < (9223372036854775808 : Int))) then
                    let x631 : Int := (IntKind.wrap .i64 x628)
                    some (x631, true)
                  else
                    some ((0 : Int), false)
                else
                  some ((0 : Int), false)
            else
              bif (!(!r623.2)) then
                bif (decide (x628 < (9223372036854775808 : Int))) then
                  let x632 : Int := (IntKind.wrap .i64 x628)
                  some (x632, true)
                else
                  some ((0 : Int), false)
              else
                some ((0 : Int), false)
        else
          bif (!r623.2) then
            bif (decide (r626.1 ≤ (9223372036854775808 : Int))) then
              let x633 : Int := (IntKind.wrap .u64 (0 - r626.1))
              let x634 : Int := (IntKind.wrap .i64 x633)
              some (x634, true)
            else
              bif (!(!r623.2)) then
                bif (decide (r626.1 < (9223372036854775808 : Int))) then
                  let x635 : Int := (IntKind.wrap .i64 r626.1)
                  some (x635, true)
                else
                  some ((0 : Int), false)
              else
                some ((0 : Int), false)
          else
            bif (!(!r623.2)) then
              bif (decide (r626.1 < (9223372036854775808 : Int))) then
                let x636 : Int := (IntKind.wrap .i64 r626.1)
                some (x636, true)
              else
                some ((0 : Int), false)
            else
              some ((0 : Int), false)
      else
        let x637 : Int := (IntKind.wrap .u64 (x625 - r626.2))
        bif (r626.2 == x637) then
          let x638 : Int := (Go.bits .and .u64 r626.1 (1 : Int))
          bif (x638 == (1 : Int)) then
            bif (decide (r626.2 > (0 : Int))) then
              let x639 : Int := (IntKind.wrap .u64 (r626.1 + (1 : Int)))
              bif (x639 == (0 : Int)) then
                some ((0 : Int), false)
              else
                bif (!r623.2) then
                  bif (decide (x639 ≤ (9223372036854775808 : Int))) then
                    let x640 : Int := (IntKind.wrap .u64 (0 - x639))
                    let x641 : Int := (IntKind.wrap .i64 x640)
                    some (x641, true)
                  else
                    bif (!(!r623.2)) then
                      bif (decide (x639 < (9223372036854775808 : Int))) then
                        let x642 : Int := (IntKind.wrap .i64 x639)
                        some (x642, true)
                      else
                        some ((0 : Int), false)
                    else
                      some ((0 : Int), false)
                else
                  bif (!(!r623.2)) then
                    bif (decide (x639 < (9223372036854775808 : Int))) then
                      let x643 : Int := (IntKind.wrap .i64 x639)
                      some (x643, true)
                    else
                      some ((0 : Int), false)
                  else
                    some ((0 : Int), false)
            else
              bif (!r623.2) then
                bif (decide (r626.1 ≤ (9223372036854775808 : Int))) then
                  let x644 : Int := (IntKind.wrap .u64 (0 - r626.1))
                  let x645 : Int := (IntKind.wrap .i64 x644)
                  some (x645, true)
                else
                  bif (!(!r623.2)) then
                    bif (decide (r626.1 < (9223372036854775808 : Int))) then
                      let x646 : Int := (IntKind.wrap .i64 r626.1)
                      some (x646, true)
                    else
                      some ((0 : Int), false)
                  else
                    some ((0 : Int), false)
              else
                bif (!(!r623.2)) then
                  bif (decide (r626.1 < (9223372036854775808 : Int))) then
                    let x647 : Int := (IntKind.wrap .i64 r626.1)
                    some (x647, true)
                  else
                    some ((0 : Int), false)
                else
                  some ((0 : Int), false)
          else
            bif (!r623.2) then
              bif (decide (r626.1 ≤ (9223372036854775808 : Int))) then
                let x648 : Int := (IntKind.wrap .u64 (0 - r626.1))
                let x649 : Int := (IntKind.wrap .i64 x648)
                some (x649, true)
              else
                bif (!(!r623.2)) then
                  bif (decide (r626.1 < (9223372036854775808 : Int))) then
                    let x650 : Int := (IntKind.wrap .i64 r626.1)
                    some (x650, true)
                  else
                    some ((0 : Int), false)
                else
                  some ((0 : Int), false)
            else
              bif (!(!r623.2)) then
                bif (decide (r626.1 < (9223372036854775808 : Int))) then
                  let x651 : Int := (IntKind.wrap .i64 r626.1)
                  some (x651, true)
                else
                  some ((0 : Int), false)
              else
                some ((0 : Int), false)
        else
          bif (!r623.2) then
            bif (decide (r626.1 ≤ (9223372036854775808 : Int))) then
              let x652 : Int := (IntKind.wrap .u64 (0 - r626.1))
              let x653 : Int := (IntKind.wrap .i64 x652)
              some (x653, true)
            else
              bif (!(!r623.2)) then
                bif (decide (r626.1 < (9223372036854775808 : Int))) then
                  let x654 : Int := (IntKind.wrap .i64 r626.1)
                  some (x654, true)
                else
                  some ((0 : Int), false)
              else
                some ((0 : Int), false)
          else
            bif (!(!r623.2)) then
              bif (decide (r626.1 < (9223372036854775808 : Int))) then
                let x655 : Int := (IntKind.wrap .i64 r626.1)
                some (x655, true)
              else
                some ((0 : Int), false)
            else
              some ((0 : Int), false)
  else
    bif (decide (r623.1.1 ≥ x624)) then
      some ((0 : Int), false)
    else
      (F70_0 (r623.1.1, (r623.1.2, x624))).bind fun r656 =>
      let x657 : Int := (IntKind.wrap .u64 (x624 - r656.2))
      bif (decide (r656.2 > x657)) then
        bif (decide (r656.2 > (0 : Int))) then
          let x658 : Int := (IntKind.wrap .u64 (r656.1 + (1 : Int)))
          bif (x658 == (0 : Int)) then
            some ((0 : Int), false)
          else
            bif r623.2 then
              bif (decide (x658 ≤ (9223372036854775808 : Int))) then
                let x659 : Int := (IntKind.wrap .u64 (0 - x658))
                let x660 : Int := (IntKind.wrap .i64 x659)
                some (x660, true)
              else
                bif (!r623.2) then
                  bif (decide (x658 < (9223372036854775808 : Int))) then
                    let x661 : Int := (IntKind.wrap .i64 x658)
                    some (x661, true)
                  else
                    some ((0 : Int), false)
                else
                  some ((0 : Int), false)
            else
              bif (!r623.2) then
                bif (decide (x658 < (9223372036854775808 : Int))) then
                  let x662 : Int := (IntKind.wrap .i64 x658)
                  some (x662, true)
                else
                  some ((0 : Int), false)
              else
                some ((0 : Int), false)
        else
          bif r623.2 then
            bif (decide (r656.1 ≤ (9223372036854775808 : Int))) then
              let x663 : Int := (IntKind.wrap .u64 (0 - r656.1))
              let x664 : Int := (IntKind.wrap .i64 x663)
              some (x664, true)
            else
              bif (!r623.2) then
                bif (decide (r656.1 < (9223372036854775808 : Int))) then
                  let x665 : Int := (IntKind.wrap .i64 r656.1)
                  some (x665, true)
                else
                  some ((0 : Int), false)
              else
                some ((0 : Int), false)
          else
            bif (!r623.2) then
              bif (decide (r656.1 < (9223372036854775808 : Int))) then
                let x666 : Int := (IntKind.wrap .i64 r656.1)
                some (x666, true)
              else
                some ((0 : Int), false)
            else
              some ((0 : Int), false)
      else
        let x667 : Int := (IntKind.wrap .u64 (x624 - r656.2))
        bif (r656.2 == x667) then
          let x668 : Int := (Go.bits .and .u64 r656.1 (1 : Int))
          bif (x668 == (1 : Int)) then
            bif (decide (r656.2 > (0 : Int))) then
              let x669 : Int := (IntKind.wrap .u64 (r656.1 + (1 : Int)))
              bif (x669 == (0 : Int)) then
                some ((0 : Int), false)
              else
                bif r623.2 then
                  bif (decide (x669 ≤ (9223372036854775808 : Int))) then
                    let x670 : Int := (IntKind.wrap .u64 (0 - x669))
                    let x671 : Int := (IntKind.wrap .i64 x670)
                    some (x671, true)
                  else
                    bif (!r623.2) then
                      bif (decide (x669 < (9223372036854775808 : Int))) then
                        let x672 : Int := (IntKind.wrap .i64 x669)
                        some (x672, true)
                      else
                        some ((0 : Int), false)
                    else
                      some ((0 : Int), false)
                else
                  bif (!r623.2) then
                    bif (decide (x669 < (9223372036854775808 : Int))) then
                      let x673 : Int := (IntKind.wrap .i64 x669)
                      some (x673, true)
                    else
                      some ((0 : Int), false)
                  else
                    some ((0 : Int), false)
            else
              bif r623.2 then
                bif (decide (r656.1 ≤ (9223372036854775808 : Int))) then
                  let x674 : Int := (IntKind.wrap .u64 (0 - r656.1))
                  let x675 : Int := (IntKind.wrap .i64 x674)
                  some (x675, true)
                else
                  bif (!r623.2) then
                    bif (decide (r656.1 < (9223372036854775808 : Int))) then
                      let x676 : Int := (IntKind.wrap .i64 r656.1)
                      some (x676, true)
                    else
                      some ((0 : Int), false)
                  else
                    some ((0 : Int), false)
              else
                bif (!r623.2) then
                  bif (decide (r656.1 < (9223372036854775808 : Int))) then
                    let x677 : Int := (IntKind.wrap .i64 r656.1)
                    some (x677, true)
                  else
                    some ((0 : Int), false)
                else
                  some ((0 : Int), false)
          else
            bif r623.2 then
              bif (decide (r656.1 ≤ (9223372036854775808 : Int))) then
                let x678 : Int := (IntKind.wrap .u64 (0 - r656.1))
                let x679 : Int := (IntKind.wrap .i64 x678)
                some (x679, true)
              else
                bif (!r623.2) then
                  bif (decide (r656.1 < (9223372036854775808 : Int))) then
                    let x680 : Int := (IntKind.wrap .i64 r656.1)
                    some (x680, true)
                  else
                    some ((0 : Int), false)
                else
                  some ((0 : Int), false)
            else
              bif (!r623.2) then
                bif (decide (r656.1 < (9223372036854775808 : Int))) then
                  let x681 : Int := (IntKind.wrap .i64 r656.1)
                  some (x681, true)
                else
                  some ((0 : Int), false)
              else
                some ((0 : Int), false)
        else
          bif r623.2 then
            bif (decide (r656.1 ≤ (9223372036854775808 : Int))) then
              let x682 : Int := (IntKind.wrap .u64 (0 - r656.1))
              let x683 : Int := (IntKind.wrap .i64 x682)
              some (x683, true)
            else
              bif (!r623.2) then
                bif (decide (r656.1 < (9223372036854775808 : Int))) then
                  let x684 : Int := (IntKind.wrap .i64 r656.1)
                  some (x684, true)
                else
                  some ((0 : Int), false)
              else
                some ((0 : Int), false)
          else
            bif (!r623.2) then
              bif (decide (r656.1 < (9223372036854775808 : Int))) then
                let x685 : Int := (IntKind.wrap .i64 r656.1)
                some (x685, true)
              else
                some ((0 : Int), false)
            else
              some ((0 : Int), false)

noncomputable def k66_0 : List (Known Try.prog E) := [Known.of envOk [9] [(.agg [.keep, .keep])] v69_0 F69_0 w69_0 ok69_0, Known.of envOk [1, 1, 1] [.keep, .keep, .keep] v70_0 F70_0 w70_0 ok70_0]
noncomputable def L66_0 (n id : Nat) (st : St G) : Option (Int × Bool) := none
set_option maxRecDepth 100000 in
theorem e66_0 (n : Nat) (v : (Int × Int) × Int) : ev Try.prog E (oracle k66_0) Try.f66.ntmps (fun x => mem x []) (L66_0 n) (finA Try.prog E Try.f66.results.toList [] w66_0.alts) 4000 [.code (Try.f66.body.getD .skip)] (argSt (v66_0.enc v)) = F66_0 v := by kernel_rfl
theorem ok66_0 : FnOk Try.prog E 66 v66_0.enc F66_0 w66_0.enc :=
  fn_known (fn := Try.f66) (c := (Try.f66.body.getD .skip)) Try.func66 (by kernel_rfl) rfl envOk (oracle_ok k66_0) mixed v66_0 F66_0 w66_0 [] [] 4000 L66_0 (by kernel_rfl)
    (fun _ h => nomatch h) (fun v _ h => ⟨0, (e66_0 _ v).trans h⟩) (fun _ => by kernel_rfl) (fun _ => by kernel_rfl) (fun _ _ => by kernel_rfl)
/- (*chicane/fx.M).Div -/
abbrev A61_0 : Type := (Int × Int) × Bool
abbrev R61_0 : Type := Int × Bool
def v61_0 : Pk G ((Int × Int) × Bool) := (pk (Sh.snd (Sh.cons (Sh.ptr 0 0) (Sh.cons (Sh.int .i64) (Sh.fst (Sh.cons (Sh.int .i64) Sh.nil))))) (Sh.fst (Sh.hfix 0 44 (Sh.fst (Sh.cons Sh.bool Sh.nil)) Sh.hnil)))
def w61_0 : Wk G (Int × Bool) := (Wk.one [.keep] (pk (Sh.fst (Sh.cons (Sh.int .i64) Sh.nil)) (Sh.fst (Sh.hfix 0 44 (Sh.fst (Sh.cons Sh.bool Sh.nil)) Sh.hnil))))
def F61_0 (v : (Int × Int) × Bool) : Option (Int × Bool) :=
  bif (v.1.2 == (0 : Int)) then
    (F65_0 (v.1.1, v.2)).bind fun r694 =>
    some (r694)
  else
    let x695 : Int := (Int.fdiv v.1.1 (2 ^ 32))
    let x696 : Int := (IntKind.wrap .u64 v.1.1)
    let x697 : Int := (IntKind.wrap .u64 (x696 * 2 ^ 32))
    (F66_0 ((x695, x697), v.1.2)).bind fun r698 =>
    bif (!r698.2) then
      (F40_0 ((!((decide (v.1.1 < (0 : Int))) == (decide (v.1.2 < (0 : Int))))), v.2)).bind fun r699 =>
      some (r699)
    else
      some (r698.1, v.2)

noncomputable def k61_0 : List (Known Try.prog E) := [Known.of envOk [5, 1] [(.ptr 0 0 44 [.keep]), .keep] v65_0 F65_0 w65_0 ok65_0, Known.of envOk [9, 1] [(.agg [.keep, .keep]), .keep] v66_0 F66_0 w66_0 ok66_0, Known.of envOk [5, 2] [(.ptr 0 0 44 [.keep]), .keep] v40_0 F40_0 w40_0 ok40_0]
noncomputable def L61_0 (n id : Nat) (st : St G) : Option (Int × Bool) := none
set_option maxRecDepth 100000 in
theorem e61_0 (n : Nat) (v : (Int × Int) × Bool) : ev Try.prog E (oracle k61_0) Try.f61.ntmps (fun x => mem x []) (L61_0 n) (finA Try.prog E Try.f61.results.toList [(.ptr 0 0 44 [.keep])] w61_0.alts) 4000 [.code (Try.f61.body.getD .skip)] (argSt (v61_0.enc v)) = F61_0 v := by kernel_rfl
theorem ok61_0 : FnOk Try.prog E 61 v61_0.enc F61_0 w61_0.enc :=
  fn_known (fn := Try.f61) (c := (Try.f61.body.getD .skip)) Try.func61 (by kernel_rfl) rfl envOk (oracle_ok k61_0) mixed v61_0 F61_0 w61_0 [(.ptr 0 0 44 [.keep])] [] 4000 L61_0 (by kernel_rfl)
    (fun _ h => nomatch h) (fun v _ h => ⟨0, (e61_0 _ v).trans h⟩) (fun _ => by kernel_rfl) (fun _ => by kernel_rfl) (fun _ _ => by kernel_rfl)
/- (*chicane/fx.M).Ratio -/
abbrev A56_0 : Type := (Int × Int) × Bool
abbrev R56_0 : Type := Int × Bool
def v56_0 : Pk G ((Int × Int) × Bool) := (pk (Sh.snd (Sh.cons (Sh.ptr 0 0) (Sh.cons (Sh.int .i64) (Sh.fst (Sh.cons (Sh.int .i64) Sh.nil))))) (Sh.fst (Sh.hfix 0 44 (Sh.fst (Sh.cons Sh.bool Sh.nil)) Sh.hnil)))
def w56_0 : Wk G (Int × Bool) := (Wk.one [.keep] (pk (Sh.fst (Sh.cons (Sh.int .i64) Sh.nil)) (Sh.fst (Sh.hfix 0 44 (Sh.fst (Sh.cons Sh.bool Sh.nil)) Sh.hnil))))
def F56_0 (v : (Int × Int) × Bool) : Option (Int × Bool) :=
  (F61_0 v).bind fun r702 =>
  some (r702)

noncomputable def k56_0 : List (Known Try.prog E) := [Known.of envOk [5, 1, 1] [(.ptr 0 0 44 [.keep]), .keep, .keep] v61_0 F61_0 w61_0 ok61_0]
noncomputable def L56_0 (n id : Nat) (st : St G) : Option (Int × Bool) := none
set_option maxRecDepth 100000 in
theorem e56_0 (n : Nat) (v : (Int × Int) × Bool) : ev Try.prog E (oracle k56_0) Try.f56.ntmps (fun x => mem x []) (L56_0 n) (finA Try.prog E Try.f56.results.toList [(.ptr 0 0 44 [.keep])] w56_0.alts) 4000 [.code (Try.f56.body.getD .skip)] (argSt (v56_0.enc v)) = F56_0 v := by kernel_rfl
theorem ok56_0 : FnOk Try.prog E 56 v56_0.enc F56_0 w56_0.enc :=
  fn_known (fn := Try.f56) (c := (Try.f56.body.getD .skip)) Try.func56 (by kernel_rfl) rfl envOk (oracle_ok k56_0) mixed v56_0 F56_0 w56_0 [(.ptr 0 0 44 [.keep])] [] 4000 L56_0 (by kernel_rfl)
    (fun _ h => nomatch h) (fun v _ h => ⟨0, (e56_0 _ v).trans h⟩) (fun _ => by kernel_rfl) (fun _ => by kernel_rfl) (fun _ _ => by kernel_rfl)
/- chicane/control.ratio -/
abbrev A41_0 : Type := Int × Int
abbrev R41_0 : Type := Int
def v41_0 : Pk G (Int × Int) := (Pk.fst (pk (Sh.cons (Sh.int .i64) (Sh.fst (Sh.cons (Sh.int .i64) Sh.nil))) Sh.hnil))
def w41_0 : Wk G Int := (Wk.one [.keep] (Pk.fst (pk (Sh.fst (Sh.cons (Sh.int .i64) Sh.nil)) Sh.hnil)))
def F41_0 (v : Int × Int) : Option Int :=
  (F56_0 (v, false)).bind fun r705 =>
  some (r705.1)

noncomputable def k41_0 : List (Known Try.prog E) := [Known.of envOk [5, 1, 1] [(.ptr 0 0 44 [.keep]), .keep, .keep] v56_0 F56_0 w56_0 ok56_0]
noncomputable def L41_0 (n id : Nat) (st : St G) : Option Int := none
set_option maxRecDepth 100000 in
theorem e41_0 (n : Nat) (v : Int × Int) : ev Try.prog E (oracle k41_0) Try.f41.ntmps (fun x => mem x []) (L41_0 n) (finA Try.prog E Try.f41.results.toList [] w41_0.alts) 4000 [.code (Try.f41.body.getD .skip)] (argSt (v41_0.enc v)) = F41_0 v := by kernel_rfl
theorem ok41_0 : FnOk Try.prog E 41 v41_0.enc F41_0 w41_0.enc :=
  fn_known (fn := Try.f41) (c := (Try.f41.body.getD .skip)) Try.func41 (by kernel_rfl) rfl envOk (oracle_ok k41_0) mixed v41_0 F41_0 w41_0 [] [] 4000 L41_0 (by kernel_rfl)
    (fun _ h => nomatch h) (fun v _ h => ⟨0, (e41_0 _ v).trans h⟩) (fun _ => by kernel_rfl) (fun _ => by kernel_rfl) (fun _ _ => by kernel_rfl)
/- chicane/control.Lean -/
abbrev A20_0 : Type := Int
abbrev R20_0 : Type := Int
def v20_0 : Pk G Int := (Pk.fst (pk (Sh.fst (Sh.cons (Sh.int .i64) Sh.nil)) Sh.hnil))
def w20_0 : Wk G Int := (Wk.one [.keep] (Pk.fst (pk (Sh.fst (Sh.cons (Sh.int .i64) Sh.nil)) Sh.hnil)))
def F20_0 (v : Int) : Option Int :=
  let x710 : Int := (if (-127 : Int) > v then (-127 : Int) else v)
  let x711 : Int := (if (127 : Int) < x710 then (127 : Int) else x710)
  (F41_0 (x711, (127 : Int))).bind fun r712 =>
  some (r712)

noncomputable def k20_0 : List (Known Try.prog E) := [Known.of envOk [1, 1] [.keep, .keep] v41_0 F41_0 w41_0 ok41_0]
noncomputable def L20_0 (n id : Nat) (st : St G) : Option Int := none
set_option maxRecDepth 100000 in
theorem e20_0 (n : Nat) (v : Int) : ev Try.prog E (oracle k20_0) Try.f20.ntmps (fun x => mem x []) (L20_0 n) (finA Try.prog E Try.f20.results.toList [] w20_0.alts) 4000 [.code (Try.f20.body.getD .skip)] (argSt (v20_0.enc v)) = F20_0 v := by kernel_rfl
theorem ok20_0 : FnOk Try.prog E 20 v20_0.enc F20_0 w20_0.enc :=
  fn_known (fn := Try.f20) (c := (Try.f20.body.getD .skip)) Try.func20 (by kernel_rfl) rfl envOk (oracle_ok k20_0) mixed v20_0 F20_0 w20_0 [] [] 4000 L20_0 (by kernel_rfl)
    (fun _ h => nomatch h) (fun v _ h => ⟨0, (e20_0 _ v).trans h⟩) (fun _ => by kernel_rfl) (fun _ => by kernel_rfl) (fun _ _ => by kernel_rfl)
/- math/bits.Mul64 -/
abbrev A54_0 : Type := Int × Int
abbrev R54_0 : Type := Int × Int
def v54_0 : Pk G (Int × Int) := (Pk.fst (pk (Sh.cons (Sh.int .u64) (Sh.fst (Sh.cons (Sh.int .u64) Sh.nil))) Sh.hnil))
def w54_0 : Wk G (Int × Int) := (Wk.one [.keep, .keep] (Pk.fst (pk (Sh.cons (Sh.int .u64) (Sh.fst (Sh.cons (Sh.int .u64) Sh.nil))) Sh.hnil)))
def F54_0 (v : Int × Int) : Option (Int × Int) :=
  let x751 : Int := (Go.bits .and .u64 v.1 (4294967295 : Int))
  let x752 : Int := (Int.fdiv v.1 (2 ^ 32))
  let x753 : Int := (Go.bits .and .u64 v.2 (4294967295 : Int))
  let x754 : Int := (Int.fdiv v.2 (2 ^ 32))
  let x755 : Int := (IntKind.wrap .u64 (x751 * x753))
  let x756 : Int := (IntKind.wrap .u64 (x752 * x753))
  let x757 : Int := (Int.fdiv x755 (2 ^ 32))
  let x758 : Int := (IntKind.wrap .u64 (x756 + x757))
  let x759 : Int := (Go.bits .and .u64 x758 (4294967295 : Int))
  let x760 : Int := (Int.fdiv x758 (2 ^ 32))
  let x761 : Int := (IntKind.wrap .u64 (x751 * x754))
  let x762 : Int := (IntKind.wrap .u64 (x759 + x761))
  let x763 : Int := (IntKind.wrap .u64 (x752 * x754))
  let x764 : Int := (IntKind.wrap .u64 (x763 + x760))
  let x765 : Int := (Int.fdiv x762 (2 ^ 32))
  let x766 : Int := (IntKind.wrap .u64 (x764 + x765))
  let x767 : Int := (IntKind.wrap .u64 (v.1 * v.2))
  some (x766, x767)

noncomputable def k54_0 : List (Known Try.prog E) := []
noncomputable def L54_0 (n id : Nat) (st : St G) : Option (Int × Int) := none
set_option maxRecDepth 100000 in
theorem e54_0 (n : Nat) (v : Int × Int) : ev Try.prog E (oracle k54_0) Try.f54.ntmps (fun x => mem x []) (L54_0 n) (finA Try.prog E Try.f54.results.toList [] w54_0.alts) 4000 [.code (Try.f54.body.getD .skip)] (argSt (v54_0.enc v)) = F54_0 v := by kernel_rfl
theorem ok54_0 : FnOk Try.prog E 54 v54_0.enc F54_0 w54_0.enc :=
  fn_known (fn := Try.f54) (c := (Try.f54.body.getD .skip)) Try.func54 (by kernel_rfl) rfl envOk (oracle_ok k54_0) mixed v54_0 F54_0 w54_0 [] [] 4000 L54_0 (by kernel_rfl)
    (fun _ h => nomatch h) (fun v _ h => ⟨0, (e54_0 _ v).trans h⟩) (fun _ => by kernel_rfl) (fun _ => by kernel_rfl) (fun _ _ => by kernel_rfl)
/- chicane/wide.Mul -/
abbrev A36_0 : Type := Int × Int
abbrev R36_0 : Type := Int × Int
def v36_0 : Pk G (Int × Int) := (Pk.fst (pk (Sh.cons (Sh.int .i64) (Sh.fst (Sh.cons (Sh.int .i64) Sh.nil))) Sh.hnil))
def w36_0 : Wk G (Int × Int) := (Wk.one [(.agg [.keep, .keep])] (Pk.fst (pk (Sh.fst (Sh.cons (Sh.agg (Sh.cons (Sh.int .i64) (Sh.fst (Sh.cons (Sh.int .u64) Sh.nil)))) Sh.nil)) Sh.hnil)))
def F36_0 (v : Int × Int) : Option (Int × Int) :=
  let x792 : Int := (IntKind.wrap .u64 v.1)
  let x793 : Int := (IntKind.wrap .u64 v.2)
  (F54_0 (x792, x793)).bind fun r794 =>
  bif (decide (v.1 < (0 : Int))) then
    let x795 : Int := (IntKind.wrap .u64 v.2)
    let x796 : Int := (IntKind.wrap .u64 (r794.1 - x795))
    bif (decide (v.2 < (0 : Int))) then
      let x797 : Int := (IntKind.wrap .u64 v.1)
      let x798 : Int := (IntKind.wrap .u64 (x796 - x797))
      let x799 : Int := (IntKind.wrap .i64 x798)
      some (x799, r794.2)
    else
      let x800 : Int := (IntKind.wrap .i64 x796)
      some (x800, r794.2)
  else
    bif (decide (v.2 < (0 : Int))) then
      let x801 : Int := (IntKind.wrap .u64 v.1)
      let x802 : Int := (IntKind.wrap .u64 (r794.1 - x801))
      let x803 : Int := (IntKind.wrap .i64 x802)
      some (x803, r794.2)
    else
      let x804 : Int := (IntKind.wrap .i64 r794.1)
      some (x804, r794.2)

noncomputable def k36_0 : List (Known Try.prog E) := [Known.of envOk [1, 1] [.keep, .keep] v54_0 F54_0 w54_0 ok54_0]
noncomputable def L36_0 (n id : Nat) (st : St G) : Option (Int × Int) := none
set_option maxRecDepth 100000 in
theorem e36_0 (n : Nat) (v : Int × Int) : ev Try.prog E (oracle k36_0) Try.f36.ntmps (fun x => mem x []) (L36_0 n) (finA Try.prog E Try.f36.results.toList [] w36_0.alts) 4000 [.code (Try.f36.body.getD .skip)] (argSt (v36_0.enc v)) = F36_0 v := by kernel_rfl
theorem ok36_0 : FnOk Try.prog E 36 v36_0.enc F36_0 w36_0.enc :=
  fn_known (fn := Try.f36) (c := (Try.f36.body.getD .skip)) Try.func36 (by kernel_rfl) rfl envOk (oracle_ok k36_0) mixed v36_0 F36_0 w36_0 [] [] 4000 L36_0 (by kernel_rfl)
    (fun _ h => nomatch h) (fun v _ h => ⟨0, (e36_0 _ v).trans h⟩) (fun _ => by kernel_rfl) (fun _ => by kernel_rfl) (fun _ _ => by kernel_rfl)
/- chicane/wide.Of -/
abbrev A38_0 : Type := Int
abbrev R38_0 : Type := Int × Int
def v38_0 : Pk G Int := (Pk.fst (pk (Sh.fst (Sh.cons (Sh.int .i64) Sh.nil)) Sh.hnil))
def w38_0 : Wk G (Int × Int) := (Wk.one [(.agg [.keep, .keep])] (Pk.fst (pk (Sh.fst (Sh.cons (Sh.agg (Sh.cons (Sh.int .i64) (Sh.fst (Sh.cons (Sh.int .u64) Sh.nil)))) Sh.nil)) Sh.hnil)))
def F38_0 (v : Int) : Option (Int × Int) :=
  let x816 : Int := (Int.fdiv v (2 ^ 63))
  let x817 : Int := (IntKind.wrap .u64 v)
  some (x816, x817)

noncomputable def k38_0 : List (Known Try.prog E) := []
noncomputable def L38_0 (n id : Nat) (st : St G) : Option (Int × Int) := none
set_option maxRecDepth 100000 in
theorem e38_0 (n : Nat) (v : Int) : ev Try.prog E (oracle k38_0) Try.f38.ntmps (fun x => mem x []) (L38_0 n) (finA Try.prog E Try.f38.results.toList [] w38_0.alts) 4000 [.code (Try.f38.body.getD .skip)] (argSt (v38_0.enc v)) = F38_0 v := by kernel_rfl
theorem ok38_0 : FnOk Try.prog E 38 v38_0.enc F38_0 w38_0.enc :=
  fn_known (fn := Try.f38) (c := (Try.f38.body.getD .skip)) Try.func38 (by kernel_rfl) rfl envOk (oracle_ok k38_0) mixed v38_0 F38_0 w38_0 [] [] 4000 L38_0 (by kernel_rfl)
    (fun _ h => nomatch h) (fun v _ h => ⟨0, (e38_0 _ v).trans h⟩) (fun _ => by kernel_rfl) (fun _ => by kernel_rfl) (fun _ _ => by kernel_rfl)
/- math/bits.Add64 -/
abbrev A55_x : Type := Int × Int × Int
abbrev R55_x : Type := Int × Int
def v55_x : Pk G (Int × Int × Int) := p3u
def w55_x : Wk G (Int × Int) := Wk.one [.keep, .keep] p2u
def F55_x (v : Int × Int × Int) : Option (Int × Int) := add64F v
theorem ok55_x : FnOk Try.prog E 55 v55_x.enc F55_x w55_x.enc := add64_known Try.func55 (by kernel_rfl) (by kernel_rfl) (by kernel_rfl) (by kernel_rfl)
/- chicane/wide.Add -/
abbrev A37_0 : Type := (Int × Int) × Int × Int
abbrev R37_0 : Type := (Int × Int) × Bool
def v37_0 : Pk G ((Int × Int) × Int × Int) := (Pk.fst (pk (Sh.cons (Sh.agg (Sh.cons (Sh.int .i64) (Sh.fst (Sh.cons (Sh.int .u64) Sh.nil)))) (Sh.fst (Sh.cons (Sh.agg (Sh.cons (Sh.int .i64) (Sh.fst (Sh.cons (Sh.int .u64) Sh.nil)))) Sh.nil))) Sh.hnil))
def w37_0 : Wk G ((Int × Int) × Bool) := (Wk.one [(.agg [.keep, .keep]), .keep] (Pk.fst (pk (Sh.cons (Sh.agg (Sh.cons (Sh.int .i64) (Sh.fst (Sh.cons (Sh.int .u64) Sh.nil)))) (Sh.fst (Sh.cons Sh.bool Sh.nil))) Sh.hnil)))
def F37_0 (v : (Int × Int) × Int × Int) : Option ((Int × Int) × Bool) :=
  (F55_x (v.1.2, (v.2.2, (0 : Int)))).bind fun r833 =>
  let x834 : Int := (IntKind.wrap .u64 v.1.1)
  let x835 : Int := (IntKind.wrap .u64 v.2.1)
  (F55_x (x834, (x835, r833.2))).bind fun r836 =>
  bif ((decide (v.1.1 < (0 : Int))) == (decide (v.2.1 < (0 : Int)))) then
    let x837 : Int := (IntKind.wrap .i64 r836.1)
    bif (!((decide (x837 < (0 : Int))) == (decide (v.1.1 < (0 : Int))))) then
      some (((0 : Int), (0 : Int)), false)
    else
      let x838 : Int := (IntKind.wrap .i64 r836.1)
      some ((x838, r833.1), true)
  else
    let x839 : Int := (IntKind.wrap .i64 r836.1)
    some ((x839, r833.1), true)

noncomputable def k37_0 : List (Known Try.prog E) := [Known.of envOk [1, 1, 1] [.keep, .keep, .keep] v55_x F55_x w55_x ok55_x]
noncomputable def L37_0 (n id : Nat) (st : St G) : Option ((Int × Int) × Bool) := none
set_option maxRecDepth 100000 in
theorem e37_0 (n : Nat) (v : (Int × Int) × Int × Int) : ev Try.prog E (oracle k37_0) Try.f37.ntmps (fun x => mem x []) (L37_0 n) (finA Try.prog E Try.f37.results.toList [] w37_0.alts) 4000 [.code (Try.f37.body.getD .skip)] (argSt (v37_0.enc v)) = F37_0 v := by kernel_rfl
theorem ok37_0 : FnOk Try.prog E 37 v37_0.enc F37_0 w37_0.enc :=
  fn_known (fn := Try.f37) (c := (Try.f37.body.getD .skip)) Try.func37 (by kernel_rfl) rfl envOk (oracle_ok k37_0) mixed v37_0 F37_0 w37_0 [] [] 4000 L37_0 (by kernel_rfl)
    (fun _ h => nomatch h) (fun v _ h => ⟨0, (e37_0 _ v).trans h⟩) (fun _ => by kernel_rfl) (fun _ => by kernel_rfl) (fun _ _ => by kernel_rfl)
/- (*chicane/fx.M).bound -/
abbrev A40_1 : Type := Bool
abbrev R40_1 : Type := Int
def v40_1 : Pk G Bool := (Pk.fst (pk (Sh.snd (Sh.cons Sh.nilptr (Sh.fst (Sh.cons Sh.bool Sh.nil)))) Sh.hnil))
def w40_1 : Wk G Int := (Wk.one [.keep] (Pk.fst (pk (Sh.fst (Sh.cons (Sh.int .i64) Sh.nil)) Sh.hnil)))
def F40_1 (v : Bool) : Option Int :=
  bif v then
    some (-9223372036854775808 : Int)
  else
    some (9223372036854775807 : Int)

noncomputable def k40_1 : List (Known Try.prog E) := []
noncomputable def L40_1 (n id : Nat) (st : St G) : Option Int := none
set_option maxRecDepth 100000 in
theorem e40_1 (n : Nat) (v : Bool) : ev Try.prog E (oracle k40_1) Try.f40.ntmps (fun x => mem x []) (L40_1 n) (finA Try.prog E Try.f40.results.toList [] w40_1.alts) 4000 [.code (Try.f40.body.getD .skip)] (argSt (v40_1.enc v)) = F40_1 v := by kernel_rfl
theorem ok40_1 : FnOk Try.prog E 40 v40_1.enc F40_1 w40_1.enc :=
  fn_known (fn := Try.f40) (c := (Try.f40.body.getD .skip)) Try.func40 (by kernel_rfl) rfl envOk (oracle_ok k40_1) mixed v40_1 F40_1 w40_1 [] [] 4000 L40_1 (by kernel_rfl)
    (fun _ h => nomatch h) (fun v _ h => ⟨0, (e40_1 _ v).trans h⟩) (fun _ => by kernel_rfl) (fun _ => by kernel_rfl) (fun _ _ => by kernel_rfl)
/- chicane/fx.fit -/
abbrev A39_0 : Type := Int × Int
abbrev R39_0 : Type := Int
def v39_0 : Pk G (Int × Int) := (Pk.fst (pk (Sh.fst (Sh.cons (Sh.agg (Sh.cons (Sh.int .i64) (Sh.fst (Sh.cons (Sh.int .u64) Sh.nil)))) (Sh.snd (Sh.cons (Sh.snd (Sh.fn (.func 40) (Sh.snd (Sh.cons Sh.nilptr Sh.nil)) Sh.nil)) Sh.nil)))) Sh.hnil))
def w39_0 : Wk G Int := (Wk.one [.keep] (Pk.fst (pk (Sh.fst (Sh.cons (Sh.int .i64) Sh.nil)) Sh.hnil)))
def F39_0 (v : Int × Int) : Option Int :=
  let x849 : Int := (IntKind.wrap .i64 v.2)
  let x850 : Int := (Int.fdiv x849 (2 ^ 63))
  bif (v.1 != x850) then
    (F40_1 (decide (v.1 < (0 : Int)))).bind fun r851 =>
    some (r851)
  else
    let x852 : Int := (IntKind.wrap .i64 v.2)
    some (x852)

noncomputable def k39_0 : List (Known Try.prog E) := [Known.of envOk [4, 2] [.keep, .keep] v40_1 F40_1 w40_1 ok40_1]
noncomputable def L39_0 (n id : Nat) (st : St G) : Option Int := none
set_option maxRecDepth 100000 in
theorem e39_0 (n : Nat) (v : Int × Int) : ev Try.prog E (oracle k39_0) Try.f39.ntmps (fun x => mem x []) (L39_0 n) (finA Try.prog E Try.f39.results.toList [] w39_0.alts) 4000 [.code (Try.f39.body.getD .skip)] (argSt (v39_0.enc v)) = F39_0 v := by kernel_rfl
theorem ok39_0 : FnOk Try.prog E 39 v39_0.enc F39_0 w39_0.enc :=
  fn_known (fn := Try.f39) (c := (Try.f39.body.getD .skip)) Try.func39 (by kernel_rfl) rfl envOk (oracle_ok k39_0) mixed v39_0 F39_0 w39_0 [] [] 4000 L39_0 (by kernel_rfl)
    (fun _ h => nomatch h) (fun v _ h => ⟨0, (e39_0 _ v).trans h⟩) (fun _ => by kernel_rfl) (fun _ => by kernel_rfl) (fun _ _ => by kernel_rfl)
/- (*chicane/fx.M).Mul -/
abbrev A19_0 : Type := Int × Int
abbrev R19_0 : Type := Int
def v19_0 : Pk G (Int × Int) := (Pk.fst (pk (Sh.snd (Sh.cons Sh.nilptr (Sh.cons (Sh.int .i64) (Sh.fst (Sh.cons (Sh.int .i64) Sh.nil))))) Sh.hnil))
def w19_0 : Wk G Int := (Wk.one [.keep] (Pk.fst (pk (Sh.fst (Sh.cons (Sh.int .i64) Sh.nil)) Sh.hnil)))
def F19_0 (v : Int × Int) : Option Int :=
  (F36_0 v).bind fun r876 =>
  let x877 : Int := (IntKind.wrap .u32 r876.2)
  let x878 : Int := (Int.fdiv r876.1 (2 ^ 32))
  let x879 : Int := (IntKind.wrap .u64 r876.1)
  let x880 : Int := (IntKind.wrap .u64 (x879 * 2 ^ 32))
  let x881 : Int := (Int.fdiv r876.2 (2 ^ 32))
  let x882 : Int := (Go.bits .or .u64 x880 x881)
  bif (decide (x877 > (2147483648 : Int))) then
    (F38_0 (1 : Int)).bind fun r883 =>
    (F37_0 ((x878, x882), r883)).bind fun r884 =>
    (F39_0 r884.1).bind fun r885 =>
    some (r885)
  else
    bif (x877 == (2147483648 : Int)) then
      let x886 : Int := (Go.bits .and .u64 x882 (1 : Int))
      bif (x886 == (1 : Int)) then
        (F38_0 (1 : Int)).bind fun r887 =>
        (F37_0 ((x878, x882), r887)).bind fun r888 =>
        (F39_0 r888.1).bind fun r889 =>
        some (r889)
      else
        (F39_0 (x878, x882)).bind fun r890 =>
        some (r890)
    else
      (F39_0 (x878, x882)).bind fun r891 =>
      some (r891)

noncomputable def k19_0 : List (Known Try.prog E) := [Known.of envOk [1, 1] [.keep, .keep] v36_0 F36_0 w36_0 ok36_0, Known.of envOk [1] [.keep] v38_0 F38_0 w38_0 ok38_0, Known.of envOk [9, 9] [(.agg [.keep, .keep]), (.agg [.keep, .keep])] v37_0 F37_0 w37_0 ok37_0, Known.of envOk [9, 140] [(.agg [.keep, .keep]), (.fn (.func 40) [.keep] [])] v39_0 F39_0 w39_0 ok39_0]
noncomputable def L19_0 (n id : Nat) (st : St G) : Option Int := none
set_option maxRecDepth 100000 in
theorem e19_0 (n : Nat) (v : Int × Int) : ev Try.prog E (oracle k19_0) Try.f19.ntmps (fun x => mem x []) (L19_0 n) (finA Try.prog E Try.f19.results.toList [] w19_0.alts) 4000 [.code (Try.f19.body.getD .skip)] (argSt (v19_0.enc v)) = F19_0 v := by kernel_rfl
theorem ok19_0 : FnOk Try.prog E 19 v19_0.enc F19_0 w19_0.enc :=
  fn_known (fn := Try.f19) (c := (Try.f19.body.getD .skip)) Try.func19 (by kernel_rfl) rfl envOk (oracle_ok k19_0) mixed v19_0 F19_0 w19_0 [] [] 4000 L19_0 (by kernel_rfl)
    (fun _ h => nomatch h) (fun v _ h => ⟨0, (e19_0 _ v).trans h⟩) (fun _ => by kernel_rfl) (fun _ => by kernel_rfl) (fun _ _ => by kernel_rfl)
/- chicane/pedal.Steer$1 -/
abbrev A21_0 : Type := Int × Int
abbrev R21_0 : Type := Int × Int
def v21_0 : Pk G (Int × Int) := (pk (Sh.fst (Sh.cons (Sh.int .i64) (Sh.snd (Sh.cons (Sh.ptr 0 0) Sh.nil)))) (Sh.fst (Sh.hfix 0 2 (Sh.fst (Sh.cons (Sh.int .i64) Sh.nil)) Sh.hnil)))
def w21_0 : Wk G (Int × Int) := (Wk.one [.keep] (pk (Sh.fst (Sh.cons (Sh.int .i64) Sh.nil)) (Sh.fst (Sh.hfix 0 2 (Sh.fst (Sh.cons (Sh.int .i64) Sh.nil)) Sh.hnil))))
def F21_0 (v : Int × Int) : Option (Int × Int) :=
  let x904 : Int := (IntKind.wrap .i64 (0 - v.2))
  let x905 : Int := (if x904 > v.1 then x904 else v.1)
  let x906 : Int := (if v.2 < x905 then v.2 else x905)
  some (x906, v.2)

noncomputable def k21_0 : List (Known Try.prog E) := []
noncomputable def L21_0 (n id : Nat) (st : St G) : Option (Int × Int) := none
set_option maxRecDepth 100000 in
theorem e21_0 (n : Nat) (v : Int × Int) : ev Try.prog E (oracle k21_0) Try.f21.ntmps (fun x => mem x []) (L21_0 n) (finA Try.prog E Try.f21.results.toList [(.ptr 0 0 2 [.keep])] w21_0.alts) 4000 [.code (Try.f21.body.getD .skip)] (argSt (v21_0.enc v)) = F21_0 v := by kernel_rfl
theorem ok21_0 : FnOk Try.prog E 21 v21_0.enc F21_0 w21_0.enc :=
  fn_known (fn := Try.f21) (c := (Try.f21.body.getD .skip)) Try.func21 (by kernel_rfl) rfl envOk (oracle_ok k21_0) mixed v21_0 F21_0 w21_0 [(.ptr 0 0 2 [.keep])] [] 4000 L21_0 (by kernel_rfl)
    (fun _ h => nomatch h) (fun v _ h => ⟨0, (e21_0 _ v).trans h⟩) (fun _ => by kernel_rfl) (fun _ => by kernel_rfl) (fun _ _ => by kernel_rfl)
/- chicane/pedal.Steer -/
abbrev A8_0 : Type := (Int × Int × Int × Int × Int × Int × Int × Int × Int × Int × Int × Int × Bool × Bool × Int × Int × Int × Int × Int × Int × Int × Int × Bool × Bool × Int × Int × Int × Int × Int × Int × Int × Int × Bool × Bool × Int × Int × Int × Int × Int × Int × Int × Int × Bool × Bool × Int × Int × (List (Int × Int)) × List Int × List Int × List (List Int) × (List (Int × Int)) × (List (Int × Int)) × Int × Int × Int × Int × Int × Int × Int × Int × List Int × Int × Int × Int × Int × Int × Int × Int × Int × Int × Int × Int × Int × Int × Int × Int) × Int × Int × Int
abbrev R8_0 : Type := Int
def v8_0 : Pk G ((Int × Int × Int × Int × Int × Int × Int × Int × Int × Int × Int × Int × Bool × Bool × Int × Int × Int × Int × Int × Int × Int × Int × Bool × Bool × Int × Int × Int × Int × Int × Int × Int × Int × Bool × Bool × Int × Int × Int × Int × Int × Int × Int × Int × Bool × Bool × Int × Int × (List (Int × Int)) × List Int × List Int × List (List Int) × (List (Int × Int)) × (List (Int × Int)) × Int × Int × Int × Int × Int × Int × Int × Int × List Int × Int × Int × Int × Int × Int × Int × Int × Int × Int × Int × Int × Int × Int × Int × Int) × Int × Int × Int) := (Pk.fst (pk (Sh.cons (Sh.agg (Sh.cons (Sh.int .i64) (Sh.cons (Sh.int .i64) (Sh.cons (Sh.int .i64) (Sh.cons (Sh.int .i64) (Sh.cons (Sh.int .i64) (Sh.cons (Sh.int .i64) (Sh.cons (Sh.int .i64) (Sh.cons (Sh.int .i64) (Sh.cons (Sh.int .i64) (Sh.cons (Sh.int .i64) (Sh.cons (Sh.int .i64) (Sh.cons (Sh.int .i64) (Sh.cons Sh.bool (Sh.cons Sh.bool (Sh.cons (Sh.int .i64) (Sh.cons (Sh.int .i64) (Sh.cons (Sh.int .i64) (Sh.cons (Sh.int .i64) (Sh.cons (Sh.int .i64) (Sh.cons (Sh.int .i64) (Sh.cons (Sh.int .i64) (Sh.cons (Sh.int .i64) (Sh.cons Sh.bool (Sh.cons Sh.bool (Sh.cons (Sh.int .i64) (Sh.cons (Sh.int .i64) (Sh.cons (Sh.int .i64) (Sh.cons (Sh.int .i64) (Sh.cons (Sh.int .i64) (Sh.cons (Sh.int .i64) (Sh.cons (Sh.int .i64) (Sh.cons (Sh.int .i64) (Sh.cons Sh.bool (Sh.cons Sh.bool (Sh.cons (Sh.int .i64) (Sh.cons (Sh.int .i64) (Sh.cons (Sh.int .i64) (Sh.cons (Sh.int .i64) (Sh.cons (Sh.int .i64) (Sh.cons (Sh.int .i64) (Sh.cons (Sh.int .i64) (Sh.cons (Sh.int .i64) (Sh.cons Sh.bool (Sh.cons Sh.bool (Sh.cons (Sh.int .i64) (Sh.cons (Sh.int .i64) (Sh.cons (Sh.ros 139) (Sh.cons (Sh.ros 22) (Sh.cons (Sh.ros 22) (Sh.cons (Sh.ros 30) (Sh.cons (Sh.ros 139) (Sh.cons (Sh.ros 139) (Sh.cons (Sh.int .i64) (Sh.cons (Sh.int .i64) (Sh.cons (Sh.int .i64) (Sh.cons (Sh.int .i64) (Sh.cons (Sh.int .i64) (Sh.cons (Sh.int .i64) (Sh.cons (Sh.int .i64) (Sh.cons (Sh.int .i64) (Sh.cons (Sh.ros 22) (Sh.cons (Sh.int .i64) (Sh.cons (Sh.int .i64) (Sh.cons (Sh.int .i64) (Sh.cons (Sh.int .i64) (Sh.cons (Sh.int .i64) (Sh.cons (Sh.int .i64) (Sh.cons (Sh.int .u32) (Sh.cons (Sh.int .u32) (Sh.cons (Sh.int .i64) (Sh.cons (Sh.int .i64) (Sh.cons (Sh.int .i64) (Sh.cons (Sh.int .i64) (Sh.cons (Sh.int .i64) (Sh.cons (Sh.int .i64) (Sh.fst (Sh.cons (Sh.int .i64) Sh.nil)))))))))))))))))))))))))))))))))))))))))))))))))))))))))))))))))))))))))))))) (Sh.cons (Sh.int .i64) (Sh.cons (Sh.int .u32) (Sh.fst (Sh.cons (Sh.int .i64) Sh.nil))))) Sh.hnil))
def w8_0 : Wk G Int := (Wk.one [.keep] (Pk.fst (pk (Sh.fst (Sh.cons (Sh.int .u32) Sh.nil)) Sh.hnil)))
def F8_0 (v : (Int × Int × Int × Int × Int × Int × Int × Int × Int × Int × Int × Int × Bool × Bool × Int × Int × Int × Int × Int × Int × Int × Int × Bool × Bool × Int × Int × Int × Int × Int × Int × Int × Int × Bool × Bool × Int × Int × Int × Int × Int × Int × Int × Int × Bool × Bool × Int × Int × (List (Int × Int)) × List Int × List Int × List (List Int) × (List (Int × Int)) × (List (Int × Int)) × Int × Int × Int × Int × Int × Int × Int × Int × List Int × Int × Int × Int × Int × Int × Int × Int × Int × Int × Int × Int × Int × Int × Int × Int) × Int × Int × Int) : Option Int :=
  bif (decide (v.2.1 < (1 : Int))) then
    some (v.2.2.1)
  else
    bif (decide (v.2.1 > (1024 : Int))) then
      some (v.2.2.1)
    else
      (F20_0 v.2.2.2).bind fun r921 =>
      let x922 : Int := (IntKind.wrap .i64 v.1.2.2.2.2.2.2.2.2.2.2.2.2.2.2.2.2.2.2.2.2.2.2.2.2.2.2.2.2.2.2.2.2.2.2.2.2.2.2.2.2.2.2.2.2.2.2.2.2.2.2.2.2.2.2.2.2.2.2.2.2.2.2.2.2.2.2.2.1)
      (F19_0 (r921, x922)).bind fun r923 =>
      let x924 : Int := (IntKind.wrap .i64 v.1.2.2.2.2.2.2.2.2.2.2.2.2.2.2.2.2.2.2.2.2.2.2.2.2.2.2.2.2.2.2.2.2.2.2.2.2.2.2.2.2.2.2.2.2.2.2.2.2.2.2.2.2.2.2.2.2.2.2.2.2.2.2.2.2.2.2.2.2.1)
      (chk (v.2.1 != 0)).bind fun _ =>
      let x925 : Int := (IntKind.wrap .i64 (Int.tdiv x924 v.2.1))
      let x926 : Int := (IntKind.wrap .i32 v.2.2.1)
      let x927 : Int := (IntKind.wrap .i64 x926)
      let x928 : Int := (IntKind.wrap .i64 (r923 - x927))
      (F21_0 (x928, x925)).bind fun r929 =>
      let x930 : Int := (IntKind.wrap .i64 (x927 + r929.1))
      let x931 : Int := (IntKind.wrap .u32 x930)
      some (x931)

noncomputable def k8_0 : List (Known Try.prog E) := [Known.of envOk [1] [.keep] v20_0 F20_0 w20_0 ok20_0, Known.of envOk [4, 1, 1] [.keep, .keep, .keep] v19_0 F19_0 w19_0 ok19_0, Known.of envOk [1, 5] [.keep, (.ptr 0 0 2 [.keep])] v21_0 F21_0 w21_0 ok21_0]
noncomputable def L8_0 (n id : Nat) (st : St G) : Option Int := none
set_option maxRecDepth 100000 in
theorem e8_0 (n : Nat) (v : (Int × Int × Int × Int × Int × Int × Int × Int × Int × Int × Int × Int × Bool × Bool × Int × Int × Int × Int × Int × Int × Int × Int × Bool × Bool × Int × Int × Int × Int × Int × Int × Int × Int × Bool × Bool × Int × Int × Int × Int × Int × Int × Int × Int × Bool × Bool × Int × Int × (List (Int × Int)) × List Int × List Int × List (List Int) × (List (Int × Int)) × (List (Int × Int)) × Int × Int × Int × Int × Int × Int × Int × Int × List Int × Int × Int × Int × Int × Int × Int × Int × Int × Int × Int × Int × Int × Int × Int × Int) × Int × Int × Int) : ev Try.prog E (oracle k8_0) Try.f8.ntmps (fun x => mem x []) (L8_0 n) (finA Try.prog E Try.f8.results.toList [] w8_0.alts) 4000 [.code (Try.f8.body.getD .skip)] (argSt (v8_0.enc v)) = F8_0 v := by kernel_rfl
theorem ok8_0 : FnOk Try.prog E 8 v8_0.enc F8_0 w8_0.enc :=
  fn_known (fn := Try.f8) (c := (Try.f8.body.getD .skip)) Try.func8 (by kernel_rfl) rfl envOk (oracle_ok k8_0) mixed v8_0 F8_0 w8_0 [] [] 4000 L8_0 (by kernel_rfl)
    (fun _ h => nomatch h) (fun v _ h => ⟨0, (e8_0 _ v).trans h⟩) (fun _ => by kernel_rfl) (fun _ => by kernel_rfl) (fun _ _ => by kernel_rfl)
/- (*chicane/chicaneref02.M).bound -/
abbrev A43_0 : Type := Bool × Bool
abbrev R43_0 : Type := Int × Bool
def v43_0 : Pk G (Bool × Bool) := (pk (Sh.snd (Sh.cons (Sh.ptr 0 0) (Sh.fst (Sh.cons Sh.bool Sh.nil)))) (Sh.fst (Sh.hfix 0 69 (Sh.fst (Sh.cons Sh.bool Sh.nil)) Sh.hnil)))
def w43_0 : Wk G (Int × Bool) := (Wk.one [.keep] (pk (Sh.fst (Sh.cons (Sh.int .i64) Sh.nil)) (Sh.fst (Sh.hfix 0 69 (Sh.fst (Sh.cons Sh.bool Sh.nil)) Sh.hnil))))
def F43_0 (v : Bool × Bool) : Option (Int × Bool) :=
  bif v.1 then
    some ((-9223372036854775808 : Int), true)
  else
    some ((9223372036854775807 : Int), true)

noncomputable def k43_0 : List (Known Try.prog E) := []
noncomputable def L43_0 (n id : Nat) (st : St G) : Option (Int × Bool) := none
set_option maxRecDepth 100000 in
theorem e43_0 (n : Nat) (v : Bool × Bool) : ev Try.prog E (oracle k43_0) Try.f43.ntmps (fun x => mem x []) (L43_0 n) (finA Try.prog E Try.f43.results.toList [(.ptr 0 0 69 [.keep])] w43_0.alts) 4000 [.code (Try.f43.body.getD .skip)] (argSt (v43_0.enc v)) = F43_0 v := by kernel_rfl
theorem ok43_0 : FnOk Try.prog E 43 v43_0.enc F43_0 w43_0.enc :=
  fn_known (fn := Try.f43) (c := (Try.f43.body.getD .skip)) Try.func43 (by kernel_rfl) rfl envOk (oracle_ok k43_0) mixed v43_0 F43_0 w43_0 [(.ptr 0 0 69 [.keep])] [] 4000 L43_0 (by kernel_rfl)
    (fun _ h => nomatch h) (fun v _ h => ⟨0, (e43_0 _ v).trans h⟩) (fun _ => by kernel_rfl) (fun _ => by kernel_rfl) (fun _ _ => by kernel_rfl)
/- chicane/chicaneref01.Size -/
abbrev A42_0 : Type := Int
abbrev R42_0 : Type := Int
def v42_0 : Pk G Int := (Pk.fst (pk (Sh.fst (Sh.cons (Sh.int .i64) Sh.nil)) Sh.hnil))
def w42_0 : Wk G Int := (Wk.one [.keep] (Pk.fst (pk (Sh.fst (Sh.cons (Sh.int .u64) Sh.nil)) Sh.hnil)))
def F42_0 (v : Int) : Option Int :=
  bif (decide (v < (0 : Int))) then
    let x946 : Int := (IntKind.wrap .i64 (v + (1 : Int)))
    let x947 : Int := (IntKind.wrap .i64 (0 - x946))
    let x948 : Int := (IntKind.wrap .u64 x947)
    let x949 : Int := (IntKind.wrap .u64 (x948 + (1 : Int)))
    some (x949)
  else
    let x950 : Int := (IntKind.wrap .u64 v)
    some (x950)

noncomputable def k42_0 : List (Known Try.prog E) := []
noncomputable def L42_0 (n id : Nat) (st : St G) : Option Int := none
set_option maxRecDepth 100000 in
theorem e42_0 (n : Nat) (v : Int) : ev Try.prog E (oracle k42_0) Try.f42.ntmps (fun x => mem x []) (L42_0 n) (finA Try.prog E Try.f42.results.toList [] w42_0.alts) 4000 [.code (Try.f42.body.getD .skip)] (argSt (v42_0.enc v)) = F42_0 v := by kernel_rfl
theorem ok42_0 : FnOk Try.prog E 42 v42_0.enc F42_0 w42_0.enc :=
  fn_known (fn := Try.f42) (c := (Try.f42.body.getD .skip)) Try.func42 (by kernel_rfl) rfl envOk (oracle_ok k42_0) mixed v42_0 F42_0 w42_0 [] [] 4000 L42_0 (by kernel_rfl)
    (fun _ h => nomatch h) (fun v _ h => ⟨0, (e42_0 _ v).trans h⟩) (fun _ => by kernel_rfl) (fun _ => by kernel_rfl) (fun _ _ => by kernel_rfl)
/- chicane/chicaneref02.over -/
abbrev A62_0 : Type := Int × Int
abbrev R62_0 : Type := Int × Bool
def v62_0 : Pk G (Int × Int) := (Pk.fst (pk (Sh.cons (Sh.int .u64) (Sh.fst (Sh.cons (Sh.int .u64) Sh.nil))) Sh.hnil))
def w62_0 : Wk G (Int × Bool) := (Wk.one [.keep, .keep] (Pk.fst (pk (Sh.cons (Sh.int .u64) (Sh.fst (Sh.cons Sh.bool Sh.nil))) Sh.hnil)))
def c62_0_4 : Pk G (Int × Int × Int × Int × Int) := (Pk.fst (pk (Sh.cons (Sh.int .u64) (Sh.cons (Sh.int .u64) (Sh.cons (Sh.int .u64) (Sh.cons (Sh.int .u64) (Sh.fst (Sh.cons (Sh.int .i64) Sh.nil)))))) Sh.hnil))
def B62_0_4 (K : ((Int × Int × Int × Int × Int) → Option (Int × Bool))) (v : Int × Int × Int × Int × Int) : Option (Int × Bool) :=
  bif (decide (v.2.2.2.2 ≥ (0 : Int))) then
    bif (decide (v.2.2.2.2 ≥ (32 : Int))) then
      let x1001 : Int := (IntKind.wrap .i64 (v.2.2.2.2 - (32 : Int)))
      let x1002 : Int := (IntKind.wrap .u64 x1001)
      (chk (decide (0 ≤ x1002))).bind fun _ =>
      let x1003 : Int := (Int.fdiv v.1 (2 ^ min (x1002).toNat 64))
      let x1004 : Int := (Int.tmod x1003 (2 : Int))
      let x1005 : Int := (IntKind.wrap .u64 ((2 : Int) * v.2.2.2.1))
      let x1006 : Int := (IntKind.wrap .u64 (x1005 + x1004))
      bif (decide (v.2.2.1 ≥ (9223372036854775808 : Int))) then
        some ((0 : Int), false)
      else
        let x1007 : Int := (IntKind.wrap .u64 ((2 : Int) * v.2.2.1))
        bif (decide (x1006 ≥ v.2.1)) then
          let x1008 : Int := (IntKind.wrap .u64 (x1006 - v.2.1))
          let x1009 : Int := (IntKind.wrap .u64 (x1007 + (1 : Int)))
          let x1010 : Int := (IntKind.wrap .i64 (v.2.2.2.2 - (1 : Int)))
          K (v.1, (v.2.1, (x1009, (x1008, x1010))))
        else
          let x1011 : Int := (IntKind.wrap .i64 (v.2.2.2.2 - (1 : Int)))
          K (v.1, (v.2.1, (x1007, (x1006, x1011))))
    else
      let x1012 : Int := (IntKind.wrap .u64 ((2 : Int) * v.2.2.2.1))
      let x1013 : Int := (IntKind.wrap .u64 (x1012 + (0 : Int)))
      bif (decide (v.2.2.1 ≥ (9223372036854775808 : Int))) then
        some ((0 : Int), false)
      else
        let x1014 : Int := (IntKind.wrap .u64 ((2 : Int) * v.2.2.1))
        bif (decide (x1013 ≥ v.2.1)) then
          let x1015 : Int := (IntKind.wrap .u64 (x1013 - v.2.1))
          let x1016 : Int := (IntKind.wrap .u64 (x1014 + (1 : Int)))
          let x1017 : Int := (IntKind.wrap .i64 (v.2.2.2.2 - (1 : Int)))
          K (v.1, (v.2.1, (x1016, (x1015, x1017))))
        else
          let x1018 : Int := (IntKind.wrap .i64 (v.2.2.2.2 - (1 : Int)))
          K (v.1, (v.2.1, (x1014, (x1013, x1018))))
  else
    let x1019 : Int := (IntKind.wrap .u64 (v.2.1 - v.2.2.2.1))
    bif (decide (v.2.2.2.1 > x1019)) then
      let x1020 : Int := (IntKind.wrap .u64 (v.2.2.1 + (1 : Int)))
      bif (x1020 == (0 : Int)) then
        some ((0 : Int), false)
      else
        some (x1020, true)
    else
      let x1021 : Int := (IntKind.wrap .u64 (v.2.1 - v.2.2.2.1))
      bif (v.2.2.2.1 == x1021) then
        let x1022 : Int := (Int.tmod v.2.2.1 (2 : Int))
        bif (x1022 == (1 : Int)) then
          let x1023 : Int := (IntKind.wrap .u64 (v.2.2.1 + (1 : Int)))
          bif (x1023 == (0 : Int)) then
            some ((0 : Int), false)
          else
            some (x1023, true)
        else
          some (v.2.2.1, true)
      else
        some (v.2.2.1, true)

def E62_0 (K : ((Int × Int × Int × Int × Int) → Option (Int × Bool))) (v : Int × Int) : Option (Int × Bool) :=
  K (v.1, (v.2, ((0 : Int), ((0 : Int), (95 : Int)))))

def K62_0 : Nat → ((Int × Int × Int × Int × Int) → Option (Int × Bool))
  | 0 => (fun _ => none)
  | n + 1 => (B62_0_4 (K62_0 n))
def fuel62_0 (v : Int × Int) : Nat := 1000
def F62_0 (v : Int × Int) : Option (Int × Bool) := E62_0 (K62_0 (fuel62_0 v)) v
noncomputable def k62_0 : List (Known Try.prog E) := []
def s62_0_4 : List (Nat × Pat) := [(0, .keep), (1, .keep), (6, .keep), (7, .keep), (8, .keep)]
noncomputable def L62_0 (n id : Nat) (st : St G) : Option (Int × Bool) := match Nat.beq id 4 with | true => cutK Try.prog s62_0_4 [] c62_0_4.dec (K62_0 n) st | false => none
set_option maxRecDepth 100000 in
theorem e62_0 (n : Nat) (v : Int × Int) : ev Try.prog E (oracle k62_0) Try.f62.ntmps (fun x => mem x [4]) (L62_0 n) (finA Try.prog E Try.f62.results.toList [] w62_0.alts) 4000 [.code (Try.f62.body.getD .skip)] (argSt (v62_0.enc v)) = E62_0 (K62_0 n) v := by kernel_rfl
set_option maxRecDepth 100000 in
theorem b62_0_4 (n : Nat) (v : Int × Int × Int × Int × Int) : evCut Try.prog E (oracle k62_0) Try.f62.ntmps (fun x => mem x [4]) (L62_0 n) (finA Try.prog E Try.f62.results.toList [] w62_0.alts) 4000 (todoAt (Try.f62.body.getD .skip) 4) (cutSt s62_0_4 (c62_0_4.enc v)) = B62_0_4 (K62_0 n) v := by kernel_rfl
theorem ok62_0 : FnOk Try.prog E 62 v62_0.enc F62_0 w62_0.enc :=
  fn_known (fn := Try.f62) (c := (Try.f62.body.getD .skip)) Try.func62 (by kernel_rfl) rfl envOk (oracle_ok k62_0) mixed v62_0 F62_0 w62_0 [] [4] 4000 L62_0 (by kernel_rfl)
    (List.forall_mem_cons.2 ⟨⟨_, s62_0_4, c62_0_4.dec, c62_0_4.enc, fun n => (K62_0 n), c62_0_4.ok, fun _ _ => rfl, fun _ => rfl, fun n v _ h => (b62_0_4 n v).trans h⟩, fun _ h => (nomatch h)⟩) (fun v _ h => ⟨fuel62_0 v, (e62_0 _ v).trans h⟩) (fun _ => by kernel_rfl) (fun _ => by kernel_rfl) (fun _ _ => by kernel_rfl)
/- (*chicane/chicaneref02.M).signed -/
abbrev A44_0 : Type := (Bool × Int) × Bool
abbrev R44_0 : Type := Int × Bool
def v44_0 : Pk G ((Bool × Int) × Bool) := (pk (Sh.snd (Sh.cons (Sh.ptr 0 0) (Sh.cons Sh.bool (Sh.fst (Sh.cons (Sh.int .u64) Sh.nil))))) (Sh.fst (Sh.hfix 0 69 (Sh.fst (Sh.cons Sh.bool Sh.nil)) Sh.hnil)))
def w44_0 : Wk G (Int × Bool) := (Wk.one [.keep] (pk (Sh.fst (Sh.cons (Sh.int .i64) Sh.nil)) (Sh.fst (Sh.hfix 0 69 (Sh.fst (Sh.cons Sh.bool Sh.nil)) Sh.hnil))))
def F44_0 (v : (Bool × Int) × Bool) : Option (Int × Bool) :=
  bif v.1.1 then
    bif (v.1.2 == (9223372036854775808 : Int)) then
      some ((-9223372036854775808 : Int), v.2)
    else
      bif (decide (v.1.2 > (9223372036854775807 : Int))) then
        (F43_0 (v.1.1, v.2)).bind fun r1042 =>
        some (r1042)
      else
        bif v.1.1 then
          let x1043 : Int := (IntKind.wrap .i64 v.1.2)
          let x1044 : Int := (IntKind.wrap .i64 (0 - x1043))
          some (x1044, v.2)
        else
          let x1045 : Int := (IntKind.wrap .i64 v.1.2)
          some (x1045, v.2)
  else
    bif (decide (v.1.2 > (9223372036854775807 : Int))) then
      (F43_0 (v.1.1, v.2)).bind fun r1046 =>
      some (r1046)
    else
      bif v.1.1 then
        let x1047 : Int := (IntKind.wrap .i64 v.1.2)
        let x1048 : Int := (IntKind.wrap .i64 (0 - x1047))
        some (x1048, v.2)
      else
        let x1049 : Int := (IntKind.wrap .i64 v.1.2)
        some (x1049, v.2)

noncomputable def k44_0 : List (Known Try.prog E) := [Known.of envOk [5, 2] [(.ptr 0 0 69 [.keep]), .keep] v43_0 F43_0 w43_0 ok43_0]
noncomputable def L44_0 (n id : Nat) (st : St G) : Option (Int × Bool) := none
set_option maxRecDepth 100000 in
theorem e44_0 (n : Nat) (v : (Bool × Int) × Bool) : ev Try.prog E (oracle k44_0) Try.f44.ntmps (fun x => mem x []) (L44_0 n) (finA Try.prog E Try.f44.results.toList [(.ptr 0 0 69 [.keep])] w44_0.alts) 4000 [.code (Try.f44.body.getD .skip)] (argSt (v44_0.enc v)) = F44_0 v := by kernel_rfl
theorem ok44_0 : FnOk Try.prog E 44 v44_0.enc F44_0 w44_0.enc :=
  fn_known (fn := Try.f44) (c := (Try.f44.body.getD .skip)) Try.func44 (by kernel_rfl) rfl envOk (oracle_ok k44_0) mixed v44_0 F44_0 w44_0 [(.ptr 0 0 69 [.keep])] [] 4000 L44_0 (by kernel_rfl)
    (fun _ h => nomatch h) (fun v _ h => ⟨0, (e44_0 _ v).trans h⟩) (fun _ => by kernel_rfl) (fun _ => by kernel_rfl) (fun _ _ => by kernel_rfl)
/- (*chicane/chicaneref02.M).Div -/
abbrev A57_0 : Type := (Int × Int) × Bool
abbrev R57_0 : Type := Int × Bool
def v57_0 : Pk G ((Int × Int) × Bool) := (pk (Sh.snd (Sh.cons (Sh.ptr 0 0) (Sh.cons (Sh.int .i64) (Sh.fst (Sh.cons (Sh.int .i64) Sh.nil))))) (Sh.fst (Sh.hfix 0 69 (Sh.fst (Sh.cons Sh.bool Sh.nil)) Sh.hnil)))
def w57_0 : Wk G (Int × Bool) := (Wk.one [.keep] (pk (Sh.fst (Sh.cons (Sh.int .i64) Sh.nil)) (Sh.fst (Sh.hfix 0 69 (Sh.fst (Sh.cons Sh.bool Sh.nil)) Sh.hnil))))
def F57_0 (v : (Int × Int) × Bool) : Option (Int × Bool) :=
  bif (v.1.2 == (0 : Int)) then
    bif (v.1.1 == (0 : Int)) then
      some ((0 : Int), true)
    else
      (F43_0 ((decide (v.1.1 < (0 : Int))), true)).bind fun r1057 =>
      some (r1057)
  else
    (F42_0 v.1.1).bind fun r1058 =>
    (F42_0 v.1.2).bind fun r1059 =>
    (F62_0 (r1058, r1059)).bind fun r1060 =>
    bif (!r1060.2) then
      (F43_0 ((!((decide (v.1.1 < (0 : Int))) == (decide (v.1.2 < (0 : Int))))), v.2)).bind fun r1061 =>
      some (r1061)
    else
      (F44_0 (((!((decide (v.1.1 < (0 : Int))) == (decide (v.1.2 < (0 : Int))))), r1060.1), v.2)).bind fun r1062 =>
      some (r1062)

noncomputable def k57_0 : List (Known Try.prog E) := [Known.of envOk [5, 2] [(.ptr 0 0 69 [.keep]), .keep] v43_0 F43_0 w43_0 ok43_0, Known.of envOk [1] [.keep] v42_0 F42_0 w42_0 ok42_0, Known.of envOk [1, 1] [.keep, .keep] v62_0 F62_0 w62_0 ok62_0, Known.of envOk [5, 2, 1] [(.ptr 0 0 69 [.keep]), .keep, .keep] v44_0 F44_0 w44_0 ok44_0]
noncomputable def L57_0 (n id : Nat) (st : St G) : Option (Int × Bool) := none
set_option maxRecDepth 100000 in
theorem e57_0 (n : Nat) (v : (Int × Int) × Bool) : ev Try.prog E (oracle k57_0) Try.f57.ntmps (fun x => mem x []) (L57_0 n) (finA Try.prog E Try.f57.results.toList [(.ptr 0 0 69 [.keep])] w57_0.alts) 4000 [.code (Try.f57.body.getD .skip)] (argSt (v57_0.enc v)) = F57_0 v := by kernel_rfl
theorem ok57_0 : FnOk Try.prog E 57 v57_0.enc F57_0 w57_0.enc :=
  fn_known (fn := Try.f57) (c := (Try.f57.body.getD .skip)) Try.func57 (by kernel_rfl) rfl envOk (oracle_ok k57_0) mixed v57_0 F57_0 w57_0 [(.ptr 0 0 69 [.keep])] [] 4000 L57_0 (by kernel_rfl)
    (fun _ h => nomatch h) (fun v _ h => ⟨0, (e57_0 _ v).trans h⟩) (fun _ => by kernel_rfl) (fun _ => by kernel_rfl) (fun _ _ => by kernel_rfl)
/- (*chicane/chicaneref02.M).Ratio -/
abbrev A45_0 : Type := (Int × Int) × Bool
abbrev R45_0 : Type := Int × Bool
def v45_0 : Pk G ((Int × Int) × Bool) := (pk (Sh.snd (Sh.cons (Sh.ptr 0 0) (Sh.cons (Sh.int .i64) (Sh.fst (Sh.cons (Sh.int .i64) Sh.nil))))) (Sh.fst (Sh.hfix 0 69 (Sh.fst (Sh.cons Sh.bool Sh.nil)) Sh.hnil)))
def w45_0 : Wk G (Int × Bool) := (Wk.one [.keep] (pk (Sh.fst (Sh.cons (Sh.int .i64) Sh.nil)) (Sh.fst (Sh.hfix 0 69 (Sh.fst (Sh.cons Sh.bool Sh.nil)) Sh.hnil))))
def F45_0 (v : (Int × Int) × Bool) : Option (Int × Bool) :=
  (F57_0 v).bind fun r1065 =>
  some (r1065)

noncomputable def k45_0 : List (Known Try.prog E) := [Known.of envOk [5, 1, 1] [(.ptr 0 0 69 [.keep]), .keep, .keep] v57_0 F57_0 w57_0 ok57_0]
noncomputable def L45_0 (n id : Nat) (st : St G) : Option (Int × Bool) := none
set_option maxRecDepth 100000 in
theorem e45_0 (n : Nat) (v : (Int × Int) × Bool) : ev Try.prog E (oracle k45_0) Try.f45.ntmps (fun x => mem x []) (L45_0 n) (finA Try.prog E Try.f45.results.toList [(.ptr 0 0 69 [.keep])] w45_0.alts) 4000 [.code (Try.f45.body.getD .skip)] (argSt (v45_0.enc v)) = F45_0 v := by kernel_rfl
theorem ok45_0 : FnOk Try.prog E 45 v45_0.enc F45_0 w45_0.enc :=
  fn_known (fn := Try.f45) (c := (Try.f45.body.getD .skip)) Try.func45 (by kernel_rfl) rfl envOk (oracle_ok k45_0) mixed v45_0 F45_0 w45_0 [(.ptr 0 0 69 [.keep])] [] 4000 L45_0 (by kernel_rfl)
    (fun _ h => nomatch h) (fun v _ h => ⟨0, (e45_0 _ v).trans h⟩) (fun _ => by kernel_rfl) (fun _ => by kernel_rfl) (fun _ _ => by kernel_rfl)
/- chicane/chicaneref19.Lean -/
abbrev A23_0 : Type := Int
abbrev R23_0 : Type := Int
def v23_0 : Pk G Int := (Pk.fst (pk (Sh.fst (Sh.cons (Sh.int .i64) Sh.nil)) Sh.hnil))
def w23_0 : Wk G Int := (Wk.one [.keep] (Pk.fst (pk (Sh.fst (Sh.cons (Sh.int .i64) Sh.nil)) Sh.hnil)))
def F23_0 (v : Int) : Option Int :=
  let x1070 : Int := (if (127 : Int) < v then (127 : Int) else v)
  let x1071 : Int := (if (-127 : Int) > x1070 then (-127 : Int) else x1070)
  (F45_0 ((x1071, (127 : Int)), false)).bind fun r1072 =>
  some (r1072.1)

noncomputable def k23_0 : List (Known Try.prog E) := [Known.of envOk [5, 1, 1] [(.ptr 0 0 69 [.keep]), .keep, .keep] v45_0 F45_0 w45_0 ok45_0]
noncomputable def L23_0 (n id : Nat) (st : St G) : Option Int := none
set_option maxRecDepth 100000 in
theorem e23_0 (n : Nat) (v : Int) : ev Try.prog E (oracle k23_0) Try.f23.ntmps (fun x => mem x []) (L23_0 n) (finA Try.prog E Try.f23.results.toList [] w23_0.alts) 4000 [.code (Try.f23.body.getD .skip)] (argSt (v23_0.enc v)) = F23_0 v := by kernel_rfl
theorem ok23_0 : FnOk Try.prog E 23 v23_0.enc F23_0 w23_0.enc :=
  fn_known (fn := Try.f23) (c := (Try.f23.body.getD .skip)) Try.func23 (by kernel_rfl) rfl envOk (oracle_ok k23_0) mixed v23_0 F23_0 w23_0 [] [] 4000 L23_0 (by kernel_rfl)
    (fun _ h => nomatch h) (fun v _ h => ⟨0, (e23_0 _ v).trans h⟩) (fun _ => by kernel_rfl) (fun _ => by kernel_rfl) (fun _ _ => by kernel_rfl)
/- (*chicane/chicaneref02.M).Mul -/
abbrev A22_0 : Type := (Int × Int) × Bool
abbrev R22_0 : Type := Int × Bool
def v22_0 : Pk G ((Int × Int) × Bool) := (pk (Sh.snd (Sh.cons (Sh.ptr 0 0) (Sh.cons (Sh.int .i64) (Sh.fst (Sh.cons (Sh.int .i64) Sh.nil))))) (Sh.fst (Sh.hfix 0 69 (Sh.fst (Sh.cons Sh.bool Sh.nil)) Sh.hnil)))
def w22_0 : Wk G (Int × Bool) := (Wk.one [.keep] (pk (Sh.fst (Sh.cons (Sh.int .i64) Sh.nil)) (Sh.fst (Sh.hfix 0 69 (Sh.fst (Sh.cons Sh.bool Sh.nil)) Sh.hnil))))
def F22_0 (v : (Int × Int) × Bool) : Option (Int × Bool) :=
  (F42_0 v.1.1).bind fun r1183 =>
  (F42_0 v.1.2).bind fun r1184 =>
  let x1185 : Int := (IntKind.wrap .u64 (Int.tdiv r1183 (4294967296 : Int)))
  let x1186 : Int := (Int.tmod r1183 (4294967296 : Int))
  let x1187 : Int := (IntKind.wrap .u64 (Int.tdiv r1184 (4294967296 : Int)))
  let x1188 : Int := (Int.tmod r1184 (4294967296 : Int))
  let x1189 : Int := (IntKind.wrap .u64 (x1186 * x1188))
  let x1190 : Int := (Int.tmod x1189 (4294967296 : Int))
  let x1191 : Int := (IntKind.wrap .u64 (x1185 * x1187))
  bif (decide (x1191 ≥ (4294967296 : Int))) then
    (F43_0 ((!((decide (v.1.1 < (0 : Int))) == (decide (v.1.2 < (0 : Int))))), v.2)).bind fun r1192 =>
    some (r1192)
  else
    let x1193 : Int := (IntKind.wrap .u64 (x1185 * x1187))
    let x1194 : Int := (IntKind.wrap .u64 (x1193 * (4294967296 : Int)))
    let x1195 : Int := (IntKind.wrap .u64 (x1185 * x1188))
    let x1199 : Int := (IntKind.wrap .u64 (x1194 + x1195))
    bif (decide (x1199 < x1194)) then
      (F43_0 ((!((decide (v.1.1 < (0 : Int))) == (decide (v.1.2 < (0 : Int))))), v.2)).bind fun r1200 =>
      some (r1200)
    else
      let x1201 : Int := (IntKind.wrap .u64 (x1194 + x1195))
      let x1203 : Int := (IntKind.wrap .u64 (x1186 * x1187))
      let x1206 : Int := (IntKind.wrap .u64 (x1201 + x1203))
      bif (decide (x1206 < x1201)) then
        (F43_0 ((!((decide (v.1.1 < (0 : Int))) == (decide (v.1.2 < (0 : Int))))), v.2)).bind fun r1207 =>
        some (r1207)
      else
        let x1208 : Int := (IntKind.wrap .u64 (x1201 + x1203))
        let x1211 : Int := (IntKind.wrap .u64 (x1186 * x1188))
        let x1212 : Int := (IntKind.wrap .u64 (Int.tdiv x1211 (4294967296 : Int)))
        let x1213 : Int := (IntKind.wrap .u64 (x1208 + x1212))
        bif (decide (x1213 < x1208)) then
          (F43_0 ((!((decide (v.1.1 < (0 : Int))) == (decide (v.1.2 < (0 : Int))))), v.2)).bind fun r1214 =>
          some (r1214)
        else
          let x1215 : Int := (IntKind.wrap .u64 (x1208 + x1212))
          bif (decide (x1190 > (2147483648 : Int))) then
            let x1220 : Int := (IntKind.wrap .u64 (x1215 + (1 : Int)))
            bif (decide (x1220 < x1215)) then
              (F43_0 ((!((decide (v.1.1 < (0 : Int))) == (decide (v.1.2 < (0 : Int))))), v.2)).bind fun r1221 =>
              some (r1221)
            else
              let x1222 : Int := (IntKind.wrap .u64 (x1215 + (1 : Int)))
              (F44_0 (((!((decide (v.1.1 < (0 : Int))) == (decide (v.1.2 < (0 : Int))))), x1222), v.2)).bind fun r1223 =>
              some (r1223)
          else
            bif (x1190 == (2147483648 : Int)) then
              let x1224 : Int := (Int.tmod x1215 (2 : Int))
              bif (x1224 == (1 : Int)) then
                let x1225 : Int := (IntKind.wrap .u64 (x1215 + (1 : Int)))
                bif (decide (x1225 < x1215)) then
                  (F43_0 ((!((decide (v.1.1 < (0 : Int))) == (decide (v.1.2 < (0 : Int))))), v.2)).bind fun r1226 =>
                  some (r1226)
                else
                  let x1227 : Int := (IntKind.wrap .u64 (x1215 + (1 : Int)))
                  (F44_0 (((!((decide (v.1.1 < (0 : Int))) == (decide (v.1.2 < (0 : Int))))), x1227), v.2)).bind fun r1228 =>
                  some (r1228)
              else
                let x1229 : Int := (IntKind.wrap .u64 (x1215 + (0 : Int)))
                bif (decide (x1229 < x1215)) then
                  (F43_0 ((!((decide (v.1.1 < (0 : Int))) == (decide (v.1.2 < (0 : Int))))), v.2)).bind fun r1230 =>
                  some (r1230)
                else
                  let x1231 : Int := (IntKind.wrap .u64 (x1215 + (0 : Int)))
                  (F44_0 (((!((decide (v.1.1 < (0 : Int))) == (decide (v.1.2 < (0 : Int))))), x1231), v.2)).bind fun r1232 =>
                  some (r1232)
            else
              let x1233 : Int := (IntKind.wrap .u64 (x1215 + (0 : Int)))
              bif (decide (x1233 < x1215)) then
                (F43_0 ((!((decide (v.1.1 < (0 : Int))) == (decide (v.1.2 < (0 : Int))))), v.2)).bind fun r1234 =>
                some (r1234)
              else
                let x1235 : Int := (IntKind.wrap .u64 (x1215 + (0 : Int)))
                (F44_0 (((!((decide (v.1.1 < (0 : Int))) == (decide (v.1.2 < (0 : Int))))), x1235), v.2)).bind fun r1236 =>
                some (r1236)

noncomputable def k22_0 : List (Known Try.prog E) := [Known.of envOk [1] [.keep] v42_0 F42_0 w42_0 ok42_0, Known.of envOk [5, 2] [(.ptr 0 0 69 [.keep]), .keep] v43_0 F43_0 w43_0 ok43_0, Known.of envOk [5, 2, 1] [(.ptr 0 0 69 [.keep]), .keep, .keep] v44_0 F44_0 w44_0 ok44_0]
noncomputable def L22_0 (n id : Nat) (st : St G) : Option (Int × Bool) := none
set_option maxRecDepth 100000 in
theorem e22_0 (n : Nat) (v : (Int × Int) × Bool) : ev Try.prog E (oracle k22_0) Try.f22.ntmps (fun x => mem x []) (L22_0 n) (finA Try.prog E Try.f22.results.toList [(.ptr 0 0 69 [.keep])] w22_0.alts) 4000 [.code (Try.f22.body.getD .skip)] (argSt (v22_0.enc v)) = F22_0 v := by kernel_rfl
theorem ok22_0 : FnOk Try.prog E 22 v22_0.enc F22_0 w22_0.enc :=
  fn_known (fn := Try.f22) (c := (Try.f22.body.getD .skip)) Try.func22 (by kernel_rfl) rfl envOk (oracle_ok k22_0) mixed v22_0 F22_0 w22_0 [(.ptr 0 0 69 [.keep])] [] 4000 L22_0 (by kernel_rfl)
    (fun _ h => nomatch h) (fun v _ h => ⟨0, (e22_0 _ v).trans h⟩) (fun _ => by kernel_rfl) (fun _ => by kernel_rfl) (fun _ _ => by kernel_rfl)
/- chicane/chicaneref20.Signed -/
abbrev A24_0 : Type := Int
abbrev R24_0 : Type := Int
def v24_0 : Pk G Int := (Pk.fst (pk (Sh.fst (Sh.cons (Sh.int .u32) Sh.nil)) Sh.hnil))
def w24_0 : Wk G Int := (Wk.one [.keep] (Pk.fst (pk (Sh.fst (Sh.cons (Sh.int .i64) Sh.nil)) Sh.hnil)))
def F24_0 (v : Int) : Option Int :=
  let x1244 : Int := (IntKind.wrap .i64 v)
  bif (decide (x1244 ≥ (2147483648 : Int))) then
    let x1245 : Int := (IntKind.wrap .i64 (x1244 - (4294967296 : Int)))
    some (x1245)
  else
    some (x1244)

noncomputable def k24_0 : List (Known Try.prog E) := []
noncomputable def L24_0 (n id : Nat) (st : St G) : Option Int := none
set_option maxRecDepth 100000 in
theorem e24_0 (n : Nat) (v : Int) : ev Try.prog E (oracle k24_0) Try.f24.ntmps (fun x => mem x []) (L24_0 n) (finA Try.prog E Try.f24.results.toList [] w24_0.alts) 4000 [.code (Try.f24.body.getD .skip)] (argSt (v24_0.enc v)) = F24_0 v := by kernel_rfl
theorem ok24_0 : FnOk Try.prog E 24 v24_0.enc F24_0 w24_0.enc :=
  fn_known (fn := Try.f24) (c := (Try.f24.body.getD .skip)) Try.func24 (by kernel_rfl) rfl envOk (oracle_ok k24_0) mixed v24_0 F24_0 w24_0 [] [] 4000 L24_0 (by kernel_rfl)
    (fun _ h => nomatch h) (fun v _ h => ⟨0, (e24_0 _ v).trans h⟩) (fun _ => by kernel_rfl) (fun _ => by kernel_rfl) (fun _ _ => by kernel_rfl)
/- chicane/chicaneref20.Steer -/
abbrev A9_0 : Type := (Int × Int × Int × Int × Int × Int × Int × Int × Int × Int × Int × Int × Bool × Bool × Int × Int × Int × Int × Int × Int × Int × Int × Bool × Bool × Int × Int × Int × Int × Int × Int × Int × Int × Bool × Bool × Int × Int × Int × Int × Int × Int × Int × Int × Bool × Bool × Int × Int × (List (Int × Int)) × List Int × List Int × List (List Int) × (List (Int × Int)) × (List (Int × Int)) × Int × Int × Int × Int × Int × Int × Int × Int × List Int × Int × Int × Int × Int × Int × Int × Int × Int × Int × Int × Int × Int × Int × Int × Int) × Int × Int × Int
abbrev R9_0 : Type := Int
def v9_0 : Pk G ((Int × Int × Int × Int × Int × Int × Int × Int × Int × Int × Int × Int × Bool × Bool × Int × Int × Int × Int × Int × Int × Int × Int × Bool × Bool × Int × Int × Int × Int × Int × Int × Int × Int × Bool × Bool × Int × Int × Int × Int × Int × Int × Int × Int × Bool × Bool × Int × Int × (List (Int × Int)) × List Int × List Int × List (List Int) × (List (Int × Int)) × (List (Int × Int)) × Int × Int × Int × Int × Int × Int × Int × Int × List Int × Int × Int × Int × Int × Int × Int × Int × Int × Int × Int × Int × Int × Int × Int × Int) × Int × Int × Int) := (Pk.fst (pk (Sh.cons (Sh.agg (Sh.cons (Sh.int .i64) (Sh.cons (Sh.int .i64) (Sh.cons (Sh.int .i64) (Sh.cons (Sh.int .i64) (Sh.cons (Sh.int .i64) (Sh.cons (Sh.int .i64) (Sh.cons (Sh.int .i64) (Sh.cons (Sh.int .i64) (Sh.cons (Sh.int .i64) (Sh.cons (Sh.int .i64) (Sh.cons (Sh.int .i64) (Sh.cons (Sh.int .i64) (Sh.cons Sh.bool (Sh.cons Sh.bool (Sh.cons (Sh.int .i64) (Sh.cons (Sh.int .i64) (Sh.cons (Sh.int .i64) (Sh.cons (Sh.int .i64) (Sh.cons (Sh.int .i64) (Sh.cons (Sh.int .i64) (Sh.cons (Sh.int .i64) (Sh.cons (Sh.int .i64) (Sh.cons Sh.bool (Sh.cons Sh.bool (Sh.cons (Sh.int .i64) (Sh.cons (Sh.int .i64) (Sh.cons (Sh.int .i64) (Sh.cons (Sh.int .i64) (Sh.cons (Sh.int .i64) (Sh.cons (Sh.int .i64) (Sh.cons (Sh.int .i64) (Sh.cons (Sh.int .i64) (Sh.cons Sh.bool (Sh.cons Sh.bool (Sh.cons (Sh.int .i64) (Sh.cons (Sh.int .i64) (Sh.cons (Sh.int .i64) (Sh.cons (Sh.int .i64) (Sh.cons (Sh.int .i64) (Sh.cons (Sh.int .i64) (Sh.cons (Sh.int .i64) (Sh.cons (Sh.int .i64) (Sh.cons Sh.bool (Sh.cons Sh.bool (Sh.cons (Sh.int .i64) (Sh.cons (Sh.int .i64) (Sh.cons (Sh.ros 139) (Sh.cons (Sh.ros 22) (Sh.cons (Sh.ros 22) (Sh.cons (Sh.ros 30) (Sh.cons (Sh.ros 139) (Sh.cons (Sh.ros 139) (Sh.cons (Sh.int .i64) (Sh.cons (Sh.int .i64) (Sh.cons (Sh.int .i64) (Sh.cons (Sh.int .i64) (Sh.cons (Sh.int .i64) (Sh.cons (Sh.int .i64) (Sh.cons (Sh.int .i64) (Sh.cons (Sh.int .i64) (Sh.cons (Sh.ros 22) (Sh.cons (Sh.int .i64) (Sh.cons (Sh.int .i64) (Sh.cons (Sh.int .i64) (Sh.cons (Sh.int .i64) (Sh.cons (Sh.int .i64) (Sh.cons (Sh.int .i64) (Sh.cons (Sh.int .u32) (Sh.cons (Sh.int .u32) (Sh.cons (Sh.int .i64) (Sh.cons (Sh.int .i64) (Sh.cons (Sh.int .i64) (Sh.cons (Sh.int .i64) (Sh.cons (Sh.int .i64) (Sh.cons (Sh.int .i64) (Sh.fst (Sh.cons (Sh.int .i64) Sh.nil)))))))))))))))))))))))))))))))))))))))))))))))))))))))))))))))))))))))))))))) (Sh.cons (Sh.int .i64) (Sh.cons (Sh.int .u32) (Sh.fst (Sh.cons (Sh.int .i64) Sh.nil))))) Sh.hnil))
def w9_0 : Wk G Int := (Wk.one [.keep] (Pk.fst (pk (Sh.fst (Sh.cons (Sh.int .u32) Sh.nil)) Sh.hnil)))
def F9_0 (v : (Int × Int × Int × Int × Int × Int × Int × Int × Int × Int × Int × Int × Bool × Bool × Int × Int × Int × Int × Int × Int × Int × Int × Bool × Bool × Int × Int × Int × Int × Int × Int × Int × Int × Bool × Bool × Int × Int × Int × Int × Int × Int × Int × Int × Bool × Bool × Int × Int × (List (Int × Int)) × List Int × List Int × List (List Int) × (List (Int × Int)) × (List (Int × Int)) × Int × Int × Int × Int × Int × Int × Int × Int × List Int × Int × Int × Int × Int × Int × Int × Int × Int × Int × Int × Int × Int × Int × Int × Int) × Int × Int × Int) : Option Int :=
  bif (decide (v.2.1 < (1 : Int))) then
    some (v.2.2.1)
  else
    bif (decide (v.2.1 > (1024 : Int))) then
      some (v.2.2.1)
    else
      (F23_0 v.2.2.2).bind fun r1289 =>
      let x1290 : Int := (IntKind.wrap .i64 v.1.2.2.2.2.2.2.2.2.2.2.2.2.2.2.2.2.2.2.2.2.2.2.2.2.2.2.2.2.2.2.2.2.2.2.2.2.2.2.2.2.2.2.2.2.2.2.2.2.2.2.2.2.2.2.2.2.2.2.2.2.2.2.2.2.2.2.2.1)
      (F22_0 ((r1289, x1290), false)).bind fun r1291 =>
      let x1292 : Int := (IntKind.wrap .i64 v.1.2.2.2.2.2.2.2.2.2.2.2.2.2.2.2.2.2.2.2.2.2.2.2.2.2.2.2.2.2.2.2.2.2.2.2.2.2.2.2.2.2.2.2.2.2.2.2.2.2.2.2.2.2.2.2.2.2.2.2.2.2.2.2.2.2.2.2.2.1)
      (chk (v.2.1 != 0)).bind fun _ =>
      let x1293 : Int := (IntKind.wrap .i64 (Int.tdiv x1292 v.2.1))
      (F24_0 v.2.2.1).bind fun r1294 =>
      let x1295 : Int := (IntKind.wrap .i64 (r1294 + x1293))
      bif (decide (r1291.1 > x1295)) then
        let x1296 : Int := (IntKind.wrap .i64 (r1294 + x1293))
        let x1297 : Int := (IntKind.wrap .i64 (r1294 - x1293))
        bif (decide (x1296 < x1297)) then
          let x1298 : Int := (IntKind.wrap .i64 (r1294 - x1293))
          let x1299 : Int := (IntKind.wrap .i64 (x1298 + (4294967296 : Int)))
          let x1300 : Int := (Int.tmod x1299 (4294967296 : Int))
          let x1301 : Int := (IntKind.wrap .u32 x1300)
          some (x1301)
        else
          let x1302 : Int := (IntKind.wrap .i64 (x1296 + (4294967296 : Int)))
          let x1303 : Int := (Int.tmod x1302 (4294967296 : Int))
          let x1304 : Int := (IntKind.wrap .u32 x1303)
          some (x1304)
      else
        let x1305 : Int := (IntKind.wrap .i64 (r1294 - x1293))
        bif (decide (r1291.1 < x1305)) then
          let x1306 : Int := (IntKind.wrap .i64 (r1294 - x1293))
          let x1307 : Int := (IntKind.wrap .i64 (x1306 + (4294967296 : Int)))
          let x1308 : Int := (Int.tmod x1307 (4294967296 : Int))
          let x1309 : Int := (IntKind.wrap .u32 x1308)
          some (x1309)
        else
          let x1310 : Int := (IntKind.wrap .i64 (r1291.1 + (4294967296 : Int)))
          let x1311 : Int := (Int.tmod x1310 (4294967296 : Int))
          let x1312 : Int := (IntKind.wrap .u32 x1311)
          some (x1312)

noncomputable def k9_0 : List (Known Try.prog E) := [Known.of envOk [1] [.keep] v23_0 F23_0 w23_0 ok23_0, Known.of envOk [5, 1, 1] [(.ptr 0 0 69 [.keep]), .keep, .keep] v22_0 F22_0 w22_0 ok22_0, Known.of envOk [1] [.keep] v24_0 F24_0 w24_0 ok24_0]
noncomputable def L9_0 (n id : Nat) (st : St G) : Option Int := none
set_option maxRecDepth 100000 in
theorem e9_0 (n : Nat) (v : (Int × Int × Int × Int × Int × Int × Int × Int × Int × Int × Int × Int × Bool × Bool × Int × Int × Int × Int × Int × Int × Int × Int × Bool × Bool × Int × Int × Int × Int × Int × Int × Int × Int × Bool × Bool × Int × Int × Int × Int × Int × Int × Int × Int × Bool × Bool × Int × Int × (List (Int × Int)) × List Int × List Int × List (List Int) × (List (Int × Int)) × (List (Int × Int)) × Int × Int × Int × Int × Int × Int × Int × Int × List Int × Int × Int × Int × Int × Int × Int × Int × Int × Int × Int × Int × Int × Int × Int × Int) × Int × Int × Int) : ev Try.prog E (oracle k9_0) Try.f9.ntmps (fun x => mem x []) (L9_0 n) (finA Try.prog E Try.f9.results.toList [] w9_0.alts) 4000 [.code (Try.f9.body.getD .skip)] (argSt (v9_0.enc v)) = F9_0 v := by kernel_rfl
theorem ok9_0 : FnOk Try.prog E 9 v9_0.enc F9_0 w9_0.enc :=
  fn_known (fn := Try.f9) (c := (Try.f9.body.getD .skip)) Try.func9 (by kernel_rfl) rfl envOk (oracle_ok k9_0) mixed v9_0 F9_0 w9_0 [] [] 4000 L9_0 (by kernel_rfl)
    (fun _ h => nomatch h) (fun v _ h => ⟨0, (e9_0 _ v).trans h⟩) (fun _ => by kernel_rfl) (fun _ => by kernel_rfl) (fun _ _ => by kernel_rfl)
/- chicane/control.Part -/
abbrev A46_0 : Type := Int
abbrev R46_0 : Type := Int
def v46_0 : Pk G Int := (Pk.fst (pk (Sh.fst (Sh.cons (Sh.int .i64) Sh.nil)) Sh.hnil))
def w46_0 : Wk G Int := (Wk.one [.keep] (Pk.fst (pk (Sh.fst (Sh.cons (Sh.int .i64) Sh.nil)) Sh.hnil)))
def F46_0 (v : Int) : Option Int :=
  let x1320 : Int := (if (0 : Int) > v then (0 : Int) else v)
  let x1321 : Int := (if (255 : Int) < x1320 then (255 : Int) else x1320)
  (F41_0 (x1321, (255 : Int))).bind fun r1322 =>
  some (r1322)

noncomputable def k46_0 : List (Known Try.prog E) := [Known.of envOk [1, 1] [.keep, .keep] v41_0 F41_0 w41_0 ok41_0]
noncomputable def L46_0 (n id : Nat) (st : St G) : Option Int := none
set_option maxRecDepth 100000 in
theorem e46_0 (n : Nat) (v : Int) : ev Try.prog E (oracle k46_0) Try.f46.ntmps (fun x => mem x []) (L46_0 n) (finA Try.prog E Try.f46.results.toList [] w46_0.alts) 4000 [.code (Try.f46.body.getD .skip)] (argSt (v46_0.enc v)) = F46_0 v := by kernel_rfl
theorem ok46_0 : FnOk Try.prog E 46 v46_0.enc F46_0 w46_0.enc :=
  fn_known (fn := Try.f46) (c := (Try.f46.body.getD .skip)) Try.func46 (by kernel_rfl) rfl envOk (oracle_ok k46_0) mixed v46_0 F46_0 w46_0 [] [] 4000 L46_0 (by kernel_rfl)
    (fun _ h => nomatch h) (fun v _ h => ⟨0, (e46_0 _ v).trans h⟩) (fun _ => by kernel_rfl) (fun _ => by kernel_rfl) (fun _ _ => by kernel_rfl)
/- chicane/pedal.Pedals -/
abbrev A25_0 : Type := Int × Int × Int × Int × Int × Bool × Bool
abbrev R25_0 : Type := Int × Int × Int
def v25_0 : Pk G (Int × Int × Int × Int × Int × Bool × Bool) := (Pk.fst (pk (Sh.fst (Sh.cons (Sh.agg (Sh.cons (Sh.int .i64) (Sh.cons (Sh.int .i64) (Sh.cons (Sh.int .i64) (Sh.cons (Sh.int .i64) (Sh.cons (Sh.int .i64) (Sh.cons Sh.bool (Sh.fst (Sh.cons Sh.bool Sh.nil))))))))) Sh.nil)) Sh.hnil))
def w25_0 : Wk G (Int × Int × Int) := (Wk.one [.keep, .keep, .keep] (Pk.fst (pk (Sh.cons (Sh.int .i64) (Sh.cons (Sh.int .i64) (Sh.fst (Sh.cons (Sh.int .i64) Sh.nil)))) Sh.hnil)))
def F25_0 (v : Int × Int × Int × Int × Int × Bool × Bool) : Option (Int × Int × Int) :=
  (F46_0 v.1).bind fun r1331 =>
  (F46_0 v.2.1).bind fun r1332 =>
  (F46_0 v.2.2.1).bind fun r1333 =>
  let x1334 : Int := (IntKind.wrap .i64 ((4294967296 : Int) - r1333))
  some (r1331, (r1332, x1334))

noncomputable def k25_0 : List (Known Try.prog E) := [Known.of envOk [1] [.keep] v46_0 F46_0 w46_0 ok46_0]
noncomputable def L25_0 (n id : Nat) (st : St G) : Option (Int × Int × Int) := none
set_option maxRecDepth 100000 in
theorem e25_0 (n : Nat) (v : Int × Int × Int × Int × Int × Bool × Bool) : ev Try.prog E (oracle k25_0) Try.f25.ntmps (fun x => mem x []) (L25_0 n) (finA Try.prog E Try.f25.results.toList [] w25_0.alts) 4000 [.code (Try.f25.body.getD .skip)] (argSt (v25_0.enc v)) = F25_0 v := by kernel_rfl
theorem ok25_0 : FnOk Try.prog E 25 v25_0.enc F25_0 w25_0.enc :=
  fn_known (fn := Try.f25) (c := (Try.f25.body.getD .skip)) Try.func25 (by kernel_rfl) rfl envOk (oracle_ok k25_0) mixed v25_0 F25_0 w25_0 [] [] 4000 L25_0 (by kernel_rfl)
    (fun _ h => nomatch h) (fun v _ h => ⟨0, (e25_0 _ v).trans h⟩) (fun _ => by kernel_rfl) (fun _ => by kernel_rfl) (fun _ _ => by kernel_rfl)
/- chicane/chicanelaw20.awake -/
abbrev A10_0 : Type := Unit
abbrev R10_0 : Type := Bool
def v10_0 : Pk G Unit := (Pk.snd (pk Sh.nil Sh.hnil))
def w10_0 : Wk G Bool := (Wk.one [.keep] (Pk.fst (pk (Sh.fst (Sh.cons Sh.bool Sh.nil)) Sh.hnil)))
def F10_0 (v : Unit) : Option Bool :=
  (F25_0 ((255 : Int), ((0 : Int), ((255 : Int), ((0 : Int), ((0 : Int), (false, false))))))).bind fun r1343 =>
  (F8_0 (((0 : Int), ((0 : Int), ((0 : Int), ((0 : Int), ((0 : Int), ((0 : Int), ((0 : Int), ((0 : Int), ((0 : Int), ((0 : Int), ((0 : Int), ((0 : Int), (false, (false, ((0 : Int), ((0 : Int), ((0 : Int), ((0 : Int), ((0 : Int), ((0 : Int), ((0 : Int), ((0 : Int), (false, (false, ((0 : Int), ((0 : Int), ((0 : Int), ((0 : Int), ((0 : Int), ((0 : Int), ((0 : Int), ((0 : Int), (false, (false, ((0 : Int), ((0 : Int), ((0 : Int), ((0 : Int), ((0 : Int), ((0 : Int), ((0 : Int), ((0 : Int), (false, (false, ((0 : Int), ((0 : Int), (([] : List (Int × Int)), (([] : List Int), (([] : List Int), (([] : List (List Int)), (([] : List (Int × Int)), (([] : List (Int × Int)), ((0 : Int), ((0 : Int), ((0 : Int), ((0 : Int), ((0 : Int), ((0 : Int), ((0 : Int), ((0 : Int), (([] : List Int), ((0 : Int), ((0 : Int), ((0 : Int), ((0 : Int), ((0 : Int), ((0 : Int), ((1000 : Int), ((640 : Int), ((0 : Int), ((0 : Int), ((0 : Int), ((0 : Int), ((0 : Int), ((0 : Int), (0 : Int)))))))))))))))))))))))))))))))))))))))))))))))))))))))))))))))))))))))))))), ((64 : Int), ((0 : Int), (127 : Int))))).bind fun r1344 =>
  bif (r1344 == (10 : Int)) then
    (F8_0 (((0 : Int), ((0 : Int), ((0 : Int), ((0 : Int), ((0 : Int), ((0 : Int), ((0 : Int), ((0 : Int), ((0 : Int), ((0 : Int), ((0 : Int), ((0 : Int), (false, (false, ((0 : Int), ((0 : Int), ((0 : Int), ((0 : Int), ((0 : Int), ((0 : Int), ((0 : Int), ((0 : Int), (false, (false, ((0 : Int), ((0 : Int), ((0 : Int), ((0 : Int), ((0 : Int), ((0 : Int), ((0 : Int), ((0 : Int), (false, (false, ((0 : Int), ((0 : Int), ((0 : Int), ((0 : Int), ((0 : Int), ((0 : Int), ((0 : Int), ((0 : Int), (false, (false, ((0 : Int), ((0 : Int), (([] : List (Int × Int)), (([] : List Int), (([] : List Int), (([] : List (List Int)), (([] : List (Int × Int)), (([] : List (Int × Int)), ((0 : Int), ((0 : Int), ((0 : Int), ((0 : Int), ((0 : Int), ((0 : Int), ((0 : Int), ((0 : Int), (([] : List Int), ((0 : Int), ((0 : Int), ((0 : Int), ((0 : Int), ((0 : Int), ((0 : Int), ((1000 : Int), ((640 : Int), ((0 : Int), ((0 : Int), ((0 : Int), ((0 : Int), ((0 : Int), ((0 : Int), (0 : Int)))))))))))))))))))))))))))))))))))))))))))))))))))))))))))))))))))))))))))), ((64 : Int), ((995 : Int), (127 : Int))))).bind fun r1345 =>
    bif (r1345 == (1000 : Int)) then
      (F8_0 (((0 : Int), ((0 : Int), ((0 : Int), ((0 : Int), ((0 : Int), ((0 : Int), ((0 : Int), ((0 : Int), ((0 : Int), ((0 : Int), ((0 : Int), ((0 : Int), (false, (false, ((0 : Int), ((0 : Int), ((0 : Int), ((0 : Int), ((0 : Int), ((0 : Int), ((0 : Int), ((0 : Int), (false, (false, ((0 : Int), ((0 : Int), ((0 : Int), ((0 : Int), ((0 : Int), ((0 : Int), ((0 : Int), ((0 : Int), (false, (false, ((0 : Int), ((0 : Int), ((0 : Int), ((0 : Int), ((0 : Int), ((0 : Int), ((0 : Int), ((0 : Int), (false, (false, ((0 : Int), ((0 : Int), (([] : List (Int × Int)), (([] : List Int), (([] : List Int), (([] : List (List Int)), (([] : List (Int × Int)), (([] : List (Int × Int)), ((0 : Int), ((0 : Int), ((0 : Int), ((0 : Int), ((0 : Int), ((0 : Int), ((0 : Int), ((0 : Int), (([] : List Int), ((0 : Int), ((0 : Int), ((0 : Int), ((0 : Int), ((0 : Int), ((0 : Int), ((1000 : Int), ((640 : Int), ((0 : Int), ((0 : Int), ((0 : Int), ((0 : Int), ((0 : Int), ((0 : Int), (0 : Int)))))))))))))))))))))))))))))))))))))))))))))))))))))))))))))))))))))))))))), ((64 : Int), ((0 : Int), (-127 : Int))))).bind fun r1346 =>
      bif (r1346 == (4294967286 : Int)) then
        bif (r1343.1 == (4294967296 : Int)) then
          bif (r1343.2.1 == (0 : Int)) then
            some (r1343.2.2 == (0 : Int))
          else
            some (false)
        else
          some (false)
      else
        some (false)
    else
      some (false)
  else
    some (false)

noncomputable def k10_0 : List (Known Try.prog E) := [Known.of envOk [9] [(.agg [.keep, .keep, .keep, .keep, .keep, .keep, .keep])] v25_0 F25_0 w25_0 ok25_0, Known.of envOk [9, 1, 1, 1] [(.agg [.keep, .keep, .keep, .keep, .keep, .keep, .keep, .keep, .keep, .keep, .keep, .keep, .keep, .keep, .keep, .keep, .keep, .keep, .keep, .keep, .keep, .keep, .keep, .keep, .keep, .keep, .keep, .keep, .keep, .keep, .keep, .keep, .keep, .keep, .keep, .keep, .keep, .keep, .keep, .keep, .keep, .keep, .keep, .keep, .keep, .keep, (.ros 139), (.ros 22), (.ros 22), (.ros 30), (.ros 139), (.ros 139), .keep, .keep, .keep, .keep, .keep, .keep, .keep, .keep, (.ros 22), .keep, .keep, .keep, .keep, .keep, .keep, .keep, .keep, .keep, .keep, .keep, .keep, .keep, .keep, .keep]), .keep, .keep, .keep] v8_0 F8_0 w8_0 ok8_0]
noncomputable def L10_0 (n id : Nat) (st : St G) : Option Bool := none
set_option maxRecDepth 100000 in
theorem e10_0 (n : Nat) (v : Unit) : ev Try.prog E (oracle k10_0) Try.f10.ntmps (fun x => mem x []) (L10_0 n) (finA Try.prog E Try.f10.results.toList [] w10_0.alts) 4000 [.code (Try.f10.body.getD .skip)] (argSt (v10_0.enc v)) = F10_0 v := by kernel_rfl
theorem ok10_0 : FnOk Try.prog E 10 v10_0.enc F10_0 w10_0.enc :=
  fn_known (fn := Try.f10) (c := (Try.f10.body.getD .skip)) Try.func10 (by kernel_rfl) rfl envOk (oracle_ok k10_0) mixed v10_0 F10_0 w10_0 [] [] 4000 L10_0 (by kernel_rfl)
    (fun _ h => nomatch h) (fun v _ h => ⟨0, (e10_0 _ v).trans h⟩) (fun _ => by kernel_rfl) (fun _ => by kernel_rfl) (fun _ _ => by kernel_rfl)
/- chicane/chicanelaw20.PedalSteer -/
abbrev A3_0 : Type := (Int × Int × Int × Int × Int × Int × Int × Int × Int × Int × Int × Int × Bool × Bool × Int × Int × Int × Int × Int × Int × Int × Int × Bool × Bool × Int × Int × Int × Int × Int × Int × Int × Int × Bool × Bool × Int × Int × Int × Int × Int × Int × Int × Int × Bool × Bool × Int × Int × (List (Int × Int)) × List Int × List Int × List (List Int) × (List (Int × Int)) × (List (Int × Int)) × Int × Int × Int × Int × Int × Int × Int × Int × List Int × Int × Int × Int × Int × Int × Int × Int × Int × Int × Int × Int × Int × Int × Int × Int) × Int × Int × Int
abbrev R3_0 : Type := Bool
def v3_0 : Pk G ((Int × Int × Int × Int × Int × Int × Int × Int × Int × Int × Int × Int × Bool × Bool × Int × Int × Int × Int × Int × Int × Int × Int × Bool × Bool × Int × Int × Int × Int × Int × Int × Int × Int × Bool × Bool × Int × Int × Int × Int × Int × Int × Int × Int × Bool × Bool × Int × Int × (List (Int × Int)) × List Int × List Int × List (List Int) × (List (Int × Int)) × (List (Int × Int)) × Int × Int × Int × Int × Int × Int × Int × Int × List Int × Int × Int × Int × Int × Int × Int × Int × Int × Int × Int × Int × Int × Int × Int × Int) × Int × Int × Int) := (Pk.fst (pk (Sh.cons (Sh.agg (Sh.cons (Sh.int .i64) (Sh.cons (Sh.int .i64) (Sh.cons (Sh.int .i64) (Sh.cons (Sh.int .i64) (Sh.cons (Sh.int .i64) (Sh.cons (Sh.int .i64) (Sh.cons (Sh.int .i64) (Sh.cons (Sh.int .i64) (Sh.cons (Sh.int .i64) (Sh.cons (Sh.int .i64) (Sh.cons (Sh.int .i64) (Sh.cons (Sh.int .i64) (Sh.cons Sh.bool (Sh.cons Sh.bool (Sh.cons (Sh.int .i64) (Sh.cons (Sh.int .i64) (Sh.cons (Sh.int .i64) (Sh.cons (Sh.int .i64) (Sh.cons (Sh.int .i64) (Sh.cons (Sh.int .i64) (Sh.cons (Sh.int .i64) (Sh.cons (Sh.int .i64) (Sh.cons Sh.bool (Sh.cons Sh.bool (Sh.cons (Sh.int .i64) (Sh.cons (Sh.int .i64) (Sh.cons (Sh.int .i64) (Sh.cons (Sh.int .i64) (Sh.cons (Sh.int .i64) (Sh.cons (Sh.int .i64) (Sh.cons (Sh.int .i64) (Sh.cons (Sh.int .i64) (Sh.cons Sh.bool (Sh.cons Sh.bool (Sh.cons (Sh.int .i64) (Sh.cons (Sh.int .i64) (Sh.cons (Sh.int .i64) (Sh.cons (Sh.int .i64) (Sh.cons (Sh.int .i64) (Sh.cons (Sh.int .i64) (Sh.cons (Sh.int .i64) (Sh.cons (Sh.int .i64) (Sh.cons Sh.bool (Sh.cons Sh.bool (Sh.cons (Sh.int .i64) (Sh.cons (Sh.int .i64) (Sh.cons (Sh.ros 139) (Sh.cons (Sh.ros 22) (Sh.cons (Sh.ros 22) (Sh.cons (Sh.ros 30) (Sh.cons (Sh.ros 139) (Sh.cons (Sh.ros 139) (Sh.cons (Sh.int .i64) (Sh.cons (Sh.int .i64) (Sh.cons (Sh.int .i64) (Sh.cons (Sh.int .i64) (Sh.cons (Sh.int .i64) (Sh.cons (Sh.int .i64) (Sh.cons (Sh.int .i64) (Sh.cons (Sh.int .i64) (Sh.cons (Sh.ros 22) (Sh.cons (Sh.int .i64) (Sh.cons (Sh.int .i64) (Sh.cons (Sh.int .i64) (Sh.cons (Sh.int .i64) (Sh.cons (Sh.int .i64) (Sh.cons (Sh.int .i64) (Sh.cons (Sh.int .u32) (Sh.cons (Sh.int .u32) (Sh.cons (Sh.int .i64) (Sh.cons (Sh.int .i64) (Sh.cons (Sh.int .i64) (Sh.cons (Sh.int .i64) (Sh.cons (Sh.int .i64) (Sh.cons (Sh.int .i64) (Sh.fst (Sh.cons (Sh.int .i64) Sh.nil)))))))))))))))))))))))))))))))))))))))))))))))))))))))))))))))))))))))))))))) (Sh.cons (Sh.int .u32) (Sh.fst (Sh.cons (Sh.agg (Sh.cons (Sh.int .i64) (Sh.fst (Sh.cons (Sh.int .i64) Sh.nil)))) Sh.nil)))) Sh.hnil))
def w3_0 : Wk G Bool := (Wk.one [.keep] (Pk.fst (pk (Sh.fst (Sh.cons Sh.bool Sh.nil)) Sh.hnil)))
def F3_0 (v : (Int × Int × Int × Int × Int × Int × Int × Int × Int × Int × Int × Int × Bool × Bool × Int × Int × Int × Int × Int × Int × Int × Int × Bool × Bool × Int × Int × Int × Int × Int × Int × Int × Int × Bool × Bool × Int × Int × Int × Int × Int × Int × Int × Int × Bool × Bool × Int × Int × (List (Int × Int)) × List Int × List Int × List (List Int) × (List (Int × Int)) × (List (Int × Int)) × Int × Int × Int × Int × Int × Int × Int × Int × List Int × Int × Int × Int × Int × Int × Int × Int × Int × Int × Int × Int × Int × Int × Int × Int) × Int × Int × Int) : Option Bool :=
  (F8_0 (v.1, (v.2.2.1, (v.2.1, v.2.2.2)))).bind fun r1351 =>
  (F9_0 (v.1, (v.2.2.1, (v.2.1, v.2.2.2)))).bind fun r1352 =>
  bif (r1351 == r1352) then
    (F10_0 ()).bind fun r1353 =>
    some (r1353)
  else
    some (false)

noncomputable def k3_0 : List (Known Try.prog E) := [Known.of envOk [9, 1, 1, 1] [(.agg [.keep, .keep, .keep, .keep, .keep, .keep, .keep, .keep, .keep, .keep, .keep, .keep, .keep, .keep, .keep, .keep, .keep, .keep, .keep, .keep, .keep, .keep, .keep, .keep, .keep, .keep, .keep, .keep, .keep, .keep, .keep, .keep, .keep, .keep, .keep, .keep, .keep, .keep, .keep, .keep, .keep, .keep, .keep, .keep, .keep, .keep, (.ros 139), (.ros 22), (.ros 22), (.ros 30), (.ros 139), (.ros 139), .keep, .keep, .keep, .keep, .keep, .keep, .keep, .keep, (.ros 22), .keep, .keep, .keep, .keep, .keep, .keep, .keep, .keep, .keep, .keep, .keep, .keep, .keep, .keep, .keep]), .keep, .keep, .keep] v8_0 F8_0 w8_0 ok8_0, Known.of envOk [9, 1, 1, 1] [(.agg [.keep, .keep, .keep, .keep, .keep, .keep, .keep, .keep, .keep, .keep, .keep, .keep, .keep, .keep, .keep, .keep, .keep, .keep, .keep, .keep, .keep, .keep, .keep, .keep, .keep, .keep, .keep, .keep, .keep, .keep, .keep, .keep, .keep, .keep, .keep, .keep, .keep, .keep, .keep, .keep, .keep, .keep, .keep, .keep, .keep, .keep, (.ros 139), (.ros 22), (.ros 22), (.ros 30), (.ros 139), (.ros 139), .keep, .keep, .keep, .keep, .keep, .keep, .keep, .keep, (.ros 22), .keep, .keep, .keep, .keep, .keep, .keep, .keep, .keep, .keep, .keep, .keep, .keep, .keep, .keep, .keep]), .keep, .keep, .keep] v9_0 F9_0 w9_0 ok9_0, Known.of envOk [] [] v10_0 F10_0 w10_0 ok10_0]
noncomputable def L3_0 (n id : Nat) (st : St G) : Option Bool := none
set_option maxRecDepth 100000 in
theorem e3_0 (n : Nat) (v : (Int × Int × Int × Int × Int × Int × Int × Int × Int × Int × Int × Int × Bool × Bool × Int × Int × Int × Int × Int × Int × Int × Int × Bool × Bool × Int × Int × Int × Int × Int × Int × Int × Int × Bool × Bool × Int × Int × Int × Int × Int × Int × Int × Int × Bool × Bool × Int × Int × (List (Int × Int)) × List Int × List Int × List (List Int) × (List (Int × Int)) × (List (Int × Int)) × Int × Int × Int × Int × Int × Int × Int × Int × List Int × Int × Int × Int × Int × Int × Int × Int × Int × Int × Int × Int × Int × Int × Int × Int) × Int × Int × Int) : ev Try.prog E (oracle k3_0) Try.f3.ntmps (fun x => mem x []) (L3_0 n) (finA Try.prog E Try.f3.results.toList [] w3_0.alts) 4000 [.code (Try.f3.body.getD .skip)] (argSt (v3_0.enc v)) = F3_0 v := by kernel_rfl
theorem ok3_0 : FnOk Try.prog E 3 v3_0.enc F3_0 w3_0.enc :=
  fn_known (fn := Try.f3) (c := (Try.f3.body.getD .skip)) Try.func3 (by kernel_rfl) rfl envOk (oracle_ok k3_0) mixed v3_0 F3_0 w3_0 [] [] 4000 L3_0 (by kernel_rfl)
    (fun _ h => nomatch h) (fun v _ h => ⟨0, (e3_0 _ v).trans h⟩) (fun _ => by kernel_rfl) (fun _ => by kernel_rfl) (fun _ _ => by kernel_rfl)
/- chicane/chicanelaw20.PedalTurns -/
abbrev A4_0 : Type := (Int × Int × Int × Int × Int × Int × Int × Int × Int × Int × Int × Int × Bool × Bool × Int × Int × Int × Int × Int × Int × Int × Int × Bool × Bool × Int × Int × Int × Int × Int × Int × Int × Int × Bool × Bool × Int × Int × Int × Int × Int × Int × Int × Int × Bool × Bool × Int × Int × (List (Int × Int)) × List Int × List Int × List (List Int) × (List (Int × Int)) × (List (Int × Int)) × Int × Int × Int × Int × Int × Int × Int × Int × List Int × Int × Int × Int × Int × Int × Int × Int × Int × Int × Int × Int × Int × Int × Int × Int) × Int × Int × Int
abbrev R4_0 : Type := Bool
def v4_0 : Pk G ((Int × Int × Int × Int × Int × Int × Int × Int × Int × Int × Int × Int × Bool × Bool × Int × Int × Int × Int × Int × Int × Int × Int × Bool × Bool × Int × Int × Int × Int × Int × Int × Int × Int × Bool × Bool × Int × Int × Int × Int × Int × Int × Int × Int × Bool × Bool × Int × Int × (List (Int × Int)) × List Int × List Int × List (List Int) × (List (Int × Int)) × (List (Int × Int)) × Int × Int × Int × Int × Int × Int × Int × Int × List Int × Int × Int × Int × Int × Int × Int × Int × Int × Int × Int × Int × Int × Int × Int × Int) × Int × Int × Int) := (Pk.fst (pk (Sh.cons (Sh.agg (Sh.cons (Sh.int .i64) (Sh.cons (Sh.int .i64) (Sh.cons (Sh.int .i64) (Sh.cons (Sh.int .i64) (Sh.cons (Sh.int .i64) (Sh.cons (Sh.int .i64) (Sh.cons (Sh.int .i64) (Sh.cons (Sh.int .i64) (Sh.cons (Sh.int .i64) (Sh.cons (Sh.int .i64) (Sh.cons (Sh.int .i64) (Sh.cons (Sh.int .i64) (Sh.cons Sh.bool (Sh.cons Sh.bool (Sh.cons (Sh.int .i64) (Sh.cons (Sh.int .i64) (Sh.cons (Sh.int .i64) (Sh.cons (Sh.int .i64) (Sh.cons (Sh.int .i64) (Sh.cons (Sh.int .i64) (Sh.cons (Sh.int .i64) (Sh.cons (Sh.int .i64) (Sh.cons Sh.bool (Sh.cons Sh.bool (Sh.cons (Sh.int .i64) (Sh.cons (Sh.int .i64) (Sh.cons (Sh.int .i64) (Sh.cons (Sh.int .i64) (Sh.cons (Sh.int .i64) (Sh.cons (Sh.int .i64) (Sh.cons (Sh.int .i64) (Sh.cons (Sh.int .i64) (Sh.cons Sh.bool (Sh.cons Sh.bool (Sh.cons (Sh.int .i64) (Sh.cons (Sh.int .i64) (Sh.cons (Sh.int .i64) (Sh.cons (Sh.int .i64) (Sh.cons (Sh.int .i64) (Sh.cons (Sh.int .i64) (Sh.cons (Sh.int .i64) (Sh.cons (Sh.int .i64) (Sh.cons Sh.bool (Sh.cons Sh.bool (Sh.cons (Sh.int .i64) (Sh.cons (Sh.int .i64) (Sh.cons (Sh.ros 139) (Sh.cons (Sh.ros 22) (Sh.cons (Sh.ros 22) (Sh.cons (Sh.ros 30) (Sh.cons (Sh.ros 139) (Sh.cons (Sh.ros 139) (Sh.cons (Sh.int .i64) (Sh.cons (Sh.int .i64) (Sh.cons (Sh.int .i64) (Sh.cons (Sh.int .i64) (Sh.cons (Sh.int .i64) (Sh.cons (Sh.int .i64) (Sh.cons (Sh.int .i64) (Sh.cons (Sh.int .i64) (Sh.cons (Sh.ros 22) (Sh.cons (Sh.int .i64) (Sh.cons (Sh.int .i64) (Sh.cons (Sh.int .i64) (Sh.cons (Sh.int .i64) (Sh.cons (Sh.int .i64) (Sh.cons (Sh.int .i64) (Sh.cons (Sh.int .u32) (Sh.cons (Sh.int .u32) (Sh.cons (Sh.int .i64) (Sh.cons (Sh.int .i64) (Sh.cons (Sh.int .i64) (Sh.cons (Sh.int .i64) (Sh.cons (Sh.int .i64) (Sh.cons (Sh.int .i64) (Sh.fst (Sh.cons (Sh.int .i64) Sh.nil)))))))))))))))))))))))))))))))))))))))))))))))))))))))))))))))))))))))))))))) (Sh.cons (Sh.int .u32) (Sh.fst (Sh.cons (Sh.agg (Sh.cons (Sh.int .i64) (Sh.fst (Sh.cons (Sh.int .i64) Sh.nil)))) Sh.nil)))) Sh.hnil))
def w4_0 : Wk G Bool := (Wk.one [.keep] (Pk.fst (pk (Sh.fst (Sh.cons Sh.bool Sh.nil)) Sh.hnil)))
def F4_0 (v : (Int × Int × Int × Int × Int × Int × Int × Int × Int × Int × Int × Int × Bool × Bool × Int × Int × Int × Int × Int × Int × Int × Int × Bool × Bool × Int × Int × Int × Int × Int × Int × Int × Int × Bool × Bool × Int × Int × Int × Int × Int × Int × Int × Int × Bool × Bool × Int × Int × (List (Int × Int)) × List Int × List Int × List (List Int) × (List (Int × Int)) × (List (Int × Int)) × Int × Int × Int × Int × Int × Int × Int × Int × List Int × Int × Int × Int × Int × Int × Int × Int × Int × Int × Int × Int × Int × Int × Int × Int) × Int × Int × Int) : Option Bool :=
  bif (decide (v.2.2.1 < (1 : Int))) then
    (F10_0 ()).bind fun r1390 =>
    some (r1390)
  else
    bif (decide (v.2.2.1 > (1024 : Int))) then
      (F10_0 ()).bind fun r1391 =>
      some (r1391)
    else
      bif (decide (v.1.2.2.2.2.2.2.2.2.2.2.2.2.2.2.2.2.2.2.2.2.2.2.2.2.2.2.2.2.2.2.2.2.2.2.2.2.2.2.2.2.2.2.2.2.2.2.2.2.2.2.2.2.2.2.2.2.2.2.2.2.2.2.2.2.2.2.2.1 > (536870912 : Int))) then
        (F10_0 ()).bind fun r1392 =>
        some (r1392)
      else
        bif (decide (v.1.2.2.2.2.2.2.2.2.2.2.2.2.2.2.2.2.2.2.2.2.2.2.2.2.2.2.2.2.2.2.2.2.2.2.2.2.2.2.2.2.2.2.2.2.2.2.2.2.2.2.2.2.2.2.2.2.2.2.2.2.2.2.2.2.2.2.2.2.1 > (2147483648 : Int))) then
          (F10_0 ()).bind fun r1393 =>
          some (r1393)
        else
          let x1394 : Int := (IntKind.wrap .i32 v.2.1)
          let x1395 : Int := (IntKind.wrap .i64 x1394)
          (F8_0 (v.1, (v.2.2.1, (v.2.1, v.2.2.2)))).bind fun r1396 =>
          let x1397 : Int := (IntKind.wrap .i32 r1396)
          let x1398 : Int := (IntKind.wrap .i64 x1397)
          let x1399 : Int := (IntKind.wrap .i64 v.1.2.2.2.2.2.2.2.2.2.2.2.2.2.2.2.2.2.2.2.2.2.2.2.2.2.2.2.2.2.2.2.2.2.2.2.2.2.2.2.2.2.2.2.2.2.2.2.2.2.2.2.2.2.2.2.2.2.2.2.2.2.2.2.2.2.2.2.2.1)
          (chk (v.2.2.1 != 0)).bind fun _ =>
          let x1400 : Int := (IntKind.wrap .i64 (Int.tdiv x1399 v.2.2.1))
          let x1401 : Int := (IntKind.wrap .i64 v.1.2.2.2.2.2.2.2.2.2.2.2.2.2.2.2.2.2.2.2.2.2.2.2.2.2.2.2.2.2.2.2.2.2.2.2.2.2.2.2.2.2.2.2.2.2.2.2.2.2.2.2.2.2.2.2.2.2.2.2.2.2.2.2.2.2.2.2.1)
          let x1402 : Int := (IntKind.wrap .i64 (x1398 - x1395))
          bif (decide (x1402 ≤ x1400)) then
            let x1403 : Int := (IntKind.wrap .i64 (x1395 - x1398))
            bif (decide (x1403 ≤ x1400)) then
              let x1404 : Int := (if x1401 > x1395 then x1401 else x1395)
              bif (decide (x1398 ≤ x1404)) then
                let x1405 : Int := (IntKind.wrap .i64 (0 - x1401))
                let x1406 : Int := (if x1405 < x1395 then x1405 else x1395)
                bif (decide (x1398 ≥ x1406)) then
                  (F10_0 ()).bind fun r1407 =>
                  some (r1407)
                else
                  some (false)
              else
                some (false)
            else
              some (false)
          else
            some (false)

noncomputable def k4_0 : List (Known Try.prog E) := [Known.of envOk [] [] v10_0 F10_0 w10_0 ok10_0, Known.of envOk [9, 1, 1, 1] [(.agg [.keep, .keep, .keep, .keep, .keep, .keep, .keep, .keep, .keep, .keep, .keep, .keep, .keep, .keep, .keep, .keep, .keep, .keep, .keep, .keep, .keep, .keep, .keep, .keep, .keep, .keep, .keep, .keep, .keep, .keep, .keep, .keep, .keep, .keep, .keep, .keep, .keep, .keep, .keep, .keep, .keep, .keep, .keep, .keep, .keep, .keep, (.ros 139), (.ros 22), (.ros 22), (.ros 30), (.ros 139), (.ros 139), .keep, .keep, .keep, .keep, .keep, .keep, .keep, .keep, (.ros 22), .keep, .keep, .keep, .keep, .keep, .keep, .keep, .keep, .keep, .keep, .keep, .keep, .keep, .keep, .keep]), .keep, .keep, .keep] v8_0 F8_0 w8_0 ok8_0]
noncomputable def L4_0 (n id : Nat) (st : St G) : Option Bool := none
set_option maxRecDepth 100000 in
theorem e4_0 (n : Nat) (v : (Int × Int × Int × Int × Int × Int × Int × Int × Int × Int × Int × Int × Bool × Bool × Int × Int × Int × Int × Int × Int × Int × Int × Bool × Bool × Int × Int × Int × Int × Int × Int × Int × Int × Bool × Bool × Int × Int × Int × Int × Int × Int × Int × Int × Bool × Bool × Int × Int × (List (Int × Int)) × List Int × List Int × List (List Int) × (List (Int × Int)) × (List (Int × Int)) × Int × Int × Int × Int × Int × Int × Int × Int × List Int × Int × Int × Int × Int × Int × Int × Int × Int × Int × Int × Int × Int × Int × Int × Int) × Int × Int × Int) : ev Try.prog E (oracle k4_0) Try.f4.ntmps (fun x => mem x []) (L4_0 n) (finA Try.prog E Try.f4.results.toList [] w4_0.alts) 4000 [.code (Try.f4.body.getD .skip)] (argSt (v4_0.enc v)) = F4_0 v := by kernel_rfl
theorem ok4_0 : FnOk Try.prog E 4 v4_0.enc F4_0 w4_0.enc :=
  fn_known (fn := Try.f4) (c := (Try.f4.body.getD .skip)) Try.func4 (by kernel_rfl) rfl envOk (oracle_ok k4_0) mixed v4_0 F4_0 w4_0 [] [] 4000 L4_0 (by kernel_rfl)
    (fun _ h => nomatch h) (fun v _ h => ⟨0, (e4_0 _ v).trans h⟩) (fun _ => by kernel_rfl) (fun _ => by kernel_rfl) (fun _ _ => by kernel_rfl)
/- chicane/wide.Neg -/
abbrev A63_0 : Type := Int × Int
abbrev R63_0 : Type := (Int × Int) × Bool
def v63_0 : Pk G (Int × Int) := (Pk.fst (pk (Sh.fst (Sh.cons (Sh.agg (Sh.cons (Sh.int .i64) (Sh.fst (Sh.cons (Sh.int .u64) Sh.nil)))) Sh.nil)) Sh.hnil))
def w63_0 : Wk G ((Int × Int) × Bool) := (Wk.one [(.agg [.keep, .keep]), .keep] (Pk.fst (pk (Sh.cons (Sh.agg (Sh.cons (Sh.int .i64) (Sh.fst (Sh.cons (Sh.int .u64) Sh.nil)))) (Sh.fst (Sh.cons Sh.bool Sh.nil))) Sh.hnil)))
def F63_0 (v : Int × Int) : Option ((Int × Int) × Bool) :=
  (F67_x ((0 : Int), (v.2, (0 : Int)))).bind fun r1422 =>
  let x1423 : Int := (IntKind.wrap .u64 v.1)
  (F67_x ((0 : Int), (x1423, r1422.2))).bind fun r1424 =>
  bif (decide (v.1 < (0 : Int))) then
    let x1425 : Int := (IntKind.wrap .i64 r1424.1)
    bif (decide (x1425 < (0 : Int))) then
      some (((0 : Int), (0 : Int)), false)
    else
      let x1426 : Int := (IntKind.wrap .i64 r1424.1)
      some ((x1426, r1422.1), true)
  else
    let x1427 : Int := (IntKind.wrap .i64 r1424.1)
    some ((x1427, r1422.1), true)

noncomputable def k63_0 : List (Known Try.prog E) := [Known.of envOk [1, 1, 1] [.keep, .keep, .keep] v67_x F67_x w67_x ok67_x]
noncomputable def L63_0 (n id : Nat) (st : St G) : Option ((Int × Int) × Bool) := none
set_option maxRecDepth 100000 in
theorem e63_0 (n : Nat) (v : Int × Int) : ev Try.prog E (oracle k63_0) Try.f63.ntmps (fun x => mem x []) (L63_0 n) (finA Try.prog E Try.f63.results.toList [] w63_0.alts) 4000 [.code (Try.f63.body.getD .skip)] (argSt (v63_0.enc v)) = F63_0 v := by kernel_rfl
theorem ok63_0 : FnOk Try.prog E 63 v63_0.enc F63_0 w63_0.enc :=
  fn_known (fn := Try.f63) (c := (Try.f63.body.getD .skip)) Try.func63 (by kernel_rfl) rfl envOk (oracle_ok k63_0) mixed v63_0 F63_0 w63_0 [] [] 4000 L63_0 (by kernel_rfl)
    (fun _ h => nomatch h) (fun v _ h => ⟨0, (e63_0 _ v).trans h⟩) (fun _ => by kernel_rfl) (fun _ => by kernel_rfl) (fun _ _ => by kernel_rfl)
/- chicane/fx.fit -/
abbrev A39_1 : Type := (Int × Int) × Bool
abbrev R39_1 : Type := Int × Bool
def v39_1 : Pk G ((Int × Int) × Bool) := (pk (Sh.fst (Sh.cons (Sh.agg (Sh.cons (Sh.int .i64) (Sh.fst (Sh.cons (Sh.int .u64) Sh.nil)))) (Sh.snd (Sh.cons (Sh.snd (Sh.fn (.func 40) (Sh.snd (Sh.cons (Sh.ptr 0 0) Sh.nil)) Sh.nil)) Sh.nil)))) (Sh.fst (Sh.hfix 0 44 (Sh.fst (Sh.cons Sh.bool Sh.nil)) Sh.hnil)))
def w39_1 : Wk G (Int × Bool) := (Wk.one [.keep] (pk (Sh.fst (Sh.cons (Sh.int .i64) Sh.nil)) (Sh.fst (Sh.hfix 0 44 (Sh.fst (Sh.cons Sh.bool Sh.nil)) Sh.hnil))))
def F39_1 (v : (Int × Int) × Bool) : Option (Int × Bool) :=
  let x1439 : Int := (IntKind.wrap .i64 v.1.2)
  let x1440 : Int := (Int.fdiv x1439 (2 ^ 63))
  bif (v.1.1 != x1440) then
    (F40_0 ((decide (v.1.1 < (0 : Int))), v.2)).bind fun r1441 =>
    some (r1441)
  else
    let x1442 : Int := (IntKind.wrap .i64 v.1.2)
    some (x1442, v.2)

noncomputable def k39_1 : List (Known Try.prog E) := [Known.of envOk [5, 2] [(.ptr 0 0 44 [.keep]), .keep] v40_0 F40_0 w40_0 ok40_0]
noncomputable def L39_1 (n id : Nat) (st : St G) : Option (Int × Bool) := none
set_option maxRecDepth 100000 in
theorem e39_1 (n : Nat) (v : (Int × Int) × Bool) : ev Try.prog E (oracle k39_1) Try.f39.ntmps (fun x => mem x []) (L39_1 n) (finA Try.prog E Try.f39.results.toList [(.ptr 0 0 44 [.keep])] w39_1.alts) 4000 [.code (Try.f39.body.getD .skip)] (argSt (v39_1.enc v)) = F39_1 v := by kernel_rfl
theorem ok39_1 : FnOk Try.prog E 39 v39_1.enc F39_1 w39_1.enc :=
  fn_known (fn := Try.f39) (c := (Try.f39.body.getD .skip)) Try.func39 (by kernel_rfl) rfl envOk (oracle_ok k39_1) mixed v39_1 F39_1 w39_1 [(.ptr 0 0 44 [.keep])] [] 4000 L39_1 (by kernel_rfl)
    (fun _ h => nomatch h) (fun v _ h => ⟨0, (e39_1 _ v).trans h⟩) (fun _ => by kernel_rfl) (fun _ => by kernel_rfl) (fun _ _ => by kernel_rfl)
/- (*chicane/fx.M).Sub -/
abbrev A58_0 : Type := (Int × Int) × Bool
abbrev R58_0 : Type := Int × Bool
def v58_0 : Pk G ((Int × Int) × Bool) := (pk (Sh.snd (Sh.cons (Sh.ptr 0 0) (Sh.cons (Sh.int .i64) (Sh.fst (Sh.cons (Sh.int .i64) Sh.nil))))) (Sh.fst (Sh.hfix 0 44 (Sh.fst (Sh.cons Sh.bool Sh.nil)) Sh.hnil)))
def w58_0 : Wk G (Int × Bool) := (Wk.one [.keep] (pk (Sh.fst (Sh.cons (Sh.int .i64) Sh.nil)) (Sh.fst (Sh.hfix 0 44 (Sh.fst (Sh.cons Sh.bool Sh.nil)) Sh.hnil))))
def F58_0 (v : (Int × Int) × Bool) : Option (Int × Bool) :=
  (F38_0 v.1.2).bind fun r1449 =>
  (F63_0 r1449).bind fun r1450 =>
  (F38_0 v.1.1).bind fun r1451 =>
  (F37_0 (r1451, r1450.1)).bind fun r1452 =>
  (F39_1 (r1452.1, v.2)).bind fun r1453 =>
  some (r1453)

noncomputable def k58_0 : List (Known Try.prog E) := [Known.of envOk [1] [.keep] v38_0 F38_0 w38_0 ok38_0, Known.of envOk [9] [(.agg [.keep, .keep])] v63_0 F63_0 w63_0 ok63_0, Known.of envOk [9, 9] [(.agg [.keep, .keep]), (.agg [.keep, .keep])] v37_0 F37_0 w37_0 ok37_0, Known.of envOk [9, 140] [(.agg [.keep, .keep]), (.fn (.func 40) [(.ptr 0 0 44 [.keep])] [])] v39_1 F39_1 w39_1 ok39_1]
noncomputable def L58_0 (n id : Nat) (st : St G) : Option (Int × Bool) := none
set_option maxRecDepth 100000 in
theorem e58_0 (n : Nat) (v : (Int × Int) × Bool) : ev Try.prog E (oracle k58_0) Try.f58.ntmps (fun x => mem x []) (L58_0 n) (finA Try.prog E Try.f58.results.toList [(.ptr 0 0 44 [.keep])] w58_0.alts) 4000 [.code (Try.f58.body.getD .skip)] (argSt (v58_0.enc v)) = F58_0 v := by kernel_rfl
theorem ok58_0 : FnOk Try.prog E 58 v58_0.enc F58_0 w58_0.enc :=
  fn_known (fn := Try.f58) (c := (Try.f58.body.getD .skip)) Try.func58 (by kernel_rfl) rfl envOk (oracle_ok k58_0) mixed v58_0 F58_0 w58_0 [(.ptr 0 0 44 [.keep])] [] 4000 L58_0 (by kernel_rfl)
    (fun _ h => nomatch h) (fun v _ h => ⟨0, (e58_0 _ v).trans h⟩) (fun _ => by kernel_rfl) (fun _ => by kernel_rfl) (fun _ _ => by kernel_rfl)
/- (*chicane/fx.M).Neg -/
abbrev A47_0 : Type := Int × Bool
abbrev R47_0 : Type := Int × Bool
def v47_0 : Pk G (Int × Bool) := (pk (Sh.snd (Sh.cons (Sh.ptr 0 0) (Sh.fst (Sh.cons (Sh.int .i64) Sh.nil)))) (Sh.fst (Sh.hfix 0 44 (Sh.fst (Sh.cons Sh.bool Sh.nil)) Sh.hnil)))
def w47_0 : Wk G (Int × Bool) := (Wk.one [.keep] (pk (Sh.fst (Sh.cons (Sh.int .i64) Sh.nil)) (Sh.fst (Sh.hfix 0 44 (Sh.fst (Sh.cons Sh.bool Sh.nil)) Sh.hnil))))
def F47_0 (v : Int × Bool) : Option (Int × Bool) :=
  (F58_0 (((0 : Int), v.1), v.2)).bind fun r1456 =>
  some (r1456)

noncomputable def k47_0 : List (Known Try.prog E) := [Known.of envOk [5, 1, 1] [(.ptr 0 0 44 [.keep]), .keep, .keep] v58_0 F58_0 w58_0 ok58_0]
noncomputable def L47_0 (n id : Nat) (st : St G) : Option (Int × Bool) := none
set_option maxRecDepth 100000 in
theorem e47_0 (n : Nat) (v : Int × Bool) : ev Try.prog E (oracle k47_0) Try.f47.ntmps (fun x => mem x []) (L47_0 n) (finA Try.prog E Try.f47.results.toList [(.ptr 0 0 44 [.keep])] w47_0.alts) 4000 [.code (Try.f47.body.getD .skip)] (argSt (v47_0.enc v)) = F47_0 v := by kernel_rfl
theorem ok47_0 : FnOk Try.prog E 47 v47_0.enc F47_0 w47_0.enc :=
  fn_known (fn := Try.f47) (c := (Try.f47.body.getD .skip)) Try.func47 (by kernel_rfl) rfl envOk (oracle_ok k47_0) mixed v47_0 F47_0 w47_0 [(.ptr 0 0 44 [.keep])] [] 4000 L47_0 (by kernel_rfl)
    (fun _ h => nomatch h) (fun v _ h => ⟨0, (e47_0 _ v).trans h⟩) (fun _ => by kernel_rfl) (fun _ => by kernel_rfl) (fun _ _ => by kernel_rfl)
/- (*chicane/fx.M).Abs -/
abbrev A26_0 : Type := Int × Bool
abbrev R26_0 : Type := Int × Bool
def v26_0 : Pk G (Int × Bool) := (pk (Sh.snd (Sh.cons (Sh.ptr 0 0) (Sh.fst (Sh.cons (Sh.int .i64) Sh.nil)))) (Sh.fst (Sh.hfix 0 44 (Sh.fst (Sh.cons Sh.bool Sh.nil)) Sh.hnil)))
def w26_0 : Wk G (Int × Bool) := (Wk.one [.keep] (pk (Sh.fst (Sh.cons (Sh.int .i64) Sh.nil)) (Sh.fst (Sh.hfix 0 44 (Sh.fst (Sh.cons Sh.bool Sh.nil)) Sh.hnil))))
def F26_0 (v : Int × Bool) : Option (Int × Bool) :=
  bif (decide (v.1 < (0 : Int))) then
    (F47_0 v).bind fun r1459 =>
    some (r1459)
  else
    some (v)

noncomputable def k26_0 : List (Known Try.prog E) := [Known.of envOk [5, 1] [(.ptr 0 0 44 [.keep]), .keep] v47_0 F47_0 w47_0 ok47_0]
noncomputable def L26_0 (n id : Nat) (st : St G) : Option (Int × Bool) := none
set_option maxRecDepth 100000 in
theorem e26_0 (n : Nat) (v : Int × Bool) : ev Try.prog E (oracle k26_0) Try.f26.ntmps (fun x => mem x []) (L26_0 n) (finA Try.prog E Try.f26.results.toList [(.ptr 0 0 44 [.keep])] w26_0.alts) 4000 [.code (Try.f26.body.getD .skip)] (argSt (v26_0.enc v)) = F26_0 v := by kernel_rfl
theorem ok26_0 : FnOk Try.prog E 26 v26_0.enc F26_0 w26_0.enc :=
  fn_known (fn := Try.f26) (c := (Try.f26.body.getD .skip)) Try.func26 (by kernel_rfl) rfl envOk (oracle_ok k26_0) mixed v26_0 F26_0 w26_0 [(.ptr 0 0 44 [.keep])] [] 4000 L26_0 (by kernel_rfl)
    (fun _ h => nomatch h) (fun v _ h => ⟨0, (e26_0 _ v).trans h⟩) (fun _ => by kernel_rfl) (fun _ => by kernel_rfl) (fun _ _ => by kernel_rfl)
/- (*chicane/fx.M).Mul -/
abbrev A19_1 : Type := (Int × Int) × Bool
abbrev R19_1 : Type := Int × Bool
def v19_1 : Pk G ((Int × Int) × Bool) := (pk (Sh.snd (Sh.cons (Sh.ptr 0 0) (Sh.cons (Sh.int .i64) (Sh.fst (Sh.cons (Sh.int .i64) Sh.nil))))) (Sh.fst (Sh.hfix 0 44 (Sh.fst (Sh.cons Sh.bool Sh.nil)) Sh.hnil)))
def w19_1 : Wk G (Int × Bool) := (Wk.one [.keep] (pk (Sh.fst (Sh.cons (Sh.int .i64) Sh.nil)) (Sh.fst (Sh.hfix 0 44 (Sh.fst (Sh.cons Sh.bool Sh.nil)) Sh.hnil))))
def F19_1 (v : (Int × Int) × Bool) : Option (Int × Bool) :=
  (F36_0 v.1).bind fun r1493 =>
  let x1494 : Int := (IntKind.wrap .u32 r1493.2)
  let x1495 : Int := (Int.fdiv r1493.1 (2 ^ 32))
  let x1496 : Int := (IntKind.wrap .u64 r1493.1)
  let x1497 : Int := (IntKind.wrap .u64 (x1496 * 2 ^ 32))
  let x1498 : Int := (Int.fdiv r1493.2 (2 ^ 32))
  let x1499 : Int := (Go.bits .or .u64 x1497 x1498)
  bif (decide (x1494 > (2147483648 : Int))) then
    (F38_0 (1 : Int)).bind fun r1500 =>
    (F37_0 ((x1495, x1499), r1500)).bind fun r1501 =>
    (F39_1 (r1501.1, v.2)).bind fun r1502 =>
    some (r1502)
  else
    bif (x1494 == (2147483648 : Int)) then
      let x1503 : Int := (Go.bits .and .u64 x1499 (1 : Int))
      bif (x1503 == (1 : Int)) then
        (F38_0 (1 : Int)).bind fun r1504 =>
        (F37_0 ((x1495, x1499), r1504)).bind fun r1505 =>
        (F39_1 (r1505.1, v.2)).bind fun r1506 =>
        some (r1506)
      else
        (F39_1 ((x1495, x1499), v.2)).bind fun r1507 =>
        some (r1507)
    else
      (F39_1 ((x1495, x1499), v.2)).bind fun r1508 =>
      some (r1508)

noncomputable def k19_1 : List (Known Try.prog E) := [Known.of envOk [1, 1] [.keep, .keep] v36_0 F36_0 w36_0 ok36_0, Known.of envOk [1] [.keep] v38_0 F38_0 w38_0 ok38_0, Known.of envOk [9, 9] [(.agg [.keep, .keep]), (.agg [.keep, .keep])] v37_0 F37_0 w37_0 ok37_0, Known.of envOk [9, 140] [(.agg [.keep, .keep]), (.fn (.func 40) [(.ptr 0 0 44 [.keep])] [])] v39_1 F39_1 w39_1 ok39_1]
noncomputable def L19_1 (n id : Nat) (st : St G) : Option (Int × Bool) := none
set_option maxRecDepth 100000 in
theorem e19_1 (n : Nat) (v : (Int × Int) × Bool) : ev Try.prog E (oracle k19_1) Try.f19.ntmps (fun x => mem x []) (L19_1 n) (finA Try.prog E Try.f19.results.toList [(.ptr 0 0 44 [.keep])] w19_1.alts) 4000 [.code (Try.f19.body.getD .skip)] (argSt (v19_1.enc v)) = F19_1 v := by kernel_rfl
theorem ok19_1 : FnOk Try.prog E 19 v19_1.enc F19_1 w19_1.enc :=
  fn_known (fn := Try.f19) (c := (Try.f19.body.getD .skip)) Try.func19 (by kernel_rfl) rfl envOk (oracle_ok k19_1) mixed v19_1 F19_1 w19_1 [(.ptr 0 0 44 [.keep])] [] 4000 L19_1 (by kernel_rfl)
    (fun _ h => nomatch h) (fun v _ h => ⟨0, (e19_1 _ v).trans h⟩) (fun _ => by kernel_rfl) (fun _ => by kernel_rfl) (fun _ _ => by kernel_rfl)
/- chicane/pedal.Ease -/
abbrev A11_0 : Type := (Int × Int × Int) × Bool
abbrev R11_0 : Type := Int × Bool
def v11_0 : Pk G ((Int × Int × Int) × Bool) := (pk (Sh.snd (Sh.cons (Sh.ptr 0 0) (Sh.cons (Sh.int .i64) (Sh.cons (Sh.int .i64) (Sh.fst (Sh.cons (Sh.int .i64) Sh.nil)))))) (Sh.fst (Sh.hfix 0 44 (Sh.fst (Sh.cons Sh.bool Sh.nil)) Sh.hnil)))
def w11_0 : Wk G (Int × Bool) := (Wk.one [.keep] (pk (Sh.fst (Sh.cons (Sh.int .i64) Sh.nil)) (Sh.fst (Sh.hfix 0 44 (Sh.fst (Sh.cons Sh.bool Sh.nil)) Sh.hnil))))
def F11_0 (v : (Int × Int × Int) × Bool) : Option (Int × Bool) :=
  bif (v.1.2.2 == (0 : Int)) then
    some (v.1.1, v.2)
  else
    (F26_0 (v.1.2.1, v.2)).bind fun r1512 =>
    bif (decide (r1512.1 ≤ v.1.2.2)) then
      some (v.1.1, r1512.2)
    else
      (F19_1 ((v.1.1, (2147483648 : Int)), r1512.2)).bind fun r1513 =>
      some (r1513)

noncomputable def k11_0 : List (Known Try.prog E) := [Known.of envOk [5, 1] [(.ptr 0 0 44 [.keep]), .keep] v26_0 F26_0 w26_0 ok26_0, Known.of envOk [5, 1, 1] [(.ptr 0 0 44 [.keep]), .keep, .keep] v19_1 F19_1 w19_1 ok19_1]
noncomputable def L11_0 (n id : Nat) (st : St G) : Option (Int × Bool) := none
set_option maxRecDepth 100000 in
theorem e11_0 (n : Nat) (v : (Int × Int × Int) × Bool) : ev Try.prog E (oracle k11_0) Try.f11.ntmps (fun x => mem x []) (L11_0 n) (finA Try.prog E Try.f11.results.toList [(.ptr 0 0 44 [.keep])] w11_0.alts) 4000 [.code (Try.f11.body.getD .skip)] (argSt (v11_0.enc v)) = F11_0 v := by kernel_rfl
theorem ok11_0 : FnOk Try.prog E 11 v11_0.enc F11_0 w11_0.enc :=
  fn_known (fn := Try.f11) (c := (Try.f11.body.getD .skip)) Try.func11 (by kernel_rfl) rfl envOk (oracle_ok k11_0) mixed v11_0 F11_0 w11_0 [(.ptr 0 0 44 [.keep])] [] 4000 L11_0 (by kernel_rfl)
    (fun _ h => nomatch h) (fun v _ h => ⟨0, (e11_0 _ v).trans h⟩) (fun _ => by kernel_rfl) (fun _ => by kernel_rfl) (fun _ _ => by kernel_rfl)
/- chicane/chicanelaw20.PedalLess -/
abbrev A5_0 : Type := Int × Int × Int
abbrev R5_0 : Type := Bool
def v5_0 : Pk G (Int × Int × Int) := (Pk.fst (pk (Sh.cons (Sh.int .i64) (Sh.cons (Sh.int .i64) (Sh.fst (Sh.cons (Sh.int .i64) Sh.nil)))) Sh.hnil))
def w5_0 : Wk G Bool := (Wk.one [.keep] (Pk.fst (pk (Sh.fst (Sh.cons Sh.bool Sh.nil)) Sh.hnil)))
def F5_0 (v : Int × Int × Int) : Option Bool :=
  bif (decide (v.1 < (0 : Int))) then
    (F10_0 ()).bind fun r1521 =>
    some (r1521)
  else
    (F11_0 (v, false)).bind fun r1522 =>
    bif (decide (r1522.1 ≤ v.1)) then
      let x1523 : Int := (IntKind.wrap .i64 (Int.tdiv v.1 (2 : Int)))
      bif (decide (r1522.1 ≥ x1523)) then
        (F10_0 ()).bind fun r1524 =>
        some (r1524)
      else
        some (false)
    else
      some (false)

noncomputable def k5_0 : List (Known Try.prog E) := [Known.of envOk [] [] v10_0 F10_0 w10_0 ok10_0, Known.of envOk [5, 1, 1, 1] [(.ptr 0 0 44 [.keep]), .keep, .keep, .keep] v11_0 F11_0 w11_0 ok11_0]
noncomputable def L5_0 (n id : Nat) (st : St G) : Option Bool := none
set_option maxRecDepth 100000 in
theorem e5_0 (n : Nat) (v : Int × Int × Int) : ev Try.prog E (oracle k5_0) Try.f5.ntmps (fun x => mem x []) (L5_0 n) (finA Try.prog E Try.f5.results.toList [] w5_0.alts) 4000 [.code (Try.f5.body.getD .skip)] (argSt (v5_0.enc v)) = F5_0 v := by kernel_rfl
theorem ok5_0 : FnOk Try.prog E 5 v5_0.enc F5_0 w5_0.enc :=
  fn_known (fn := Try.f5) (c := (Try.f5.body.getD .skip)) Try.func5 (by kernel_rfl) rfl envOk (oracle_ok k5_0) mixed v5_0 F5_0 w5_0 [] [] 4000 L5_0 (by kernel_rfl)
    (fun _ h => nomatch h) (fun v _ h => ⟨0, (e5_0 _ v).trans h⟩) (fun _ => by kernel_rfl) (fun _ => by kernel_rfl) (fun _ _ => by kernel_rfl)
def Dom3_0 (v : (Int × Int × Int × Int × Int × Int × Int × Int × Int × Int × Int × Int × Bool × Bool × Int × Int × Int × Int × Int × Int × Int × Int × Bool × Bool × Int × Int × Int × Int × Int × Int × Int × Int × Bool × Bool × Int × Int × Int × Int × Int × Int × Int × Int × Bool × Bool × Int × Int × (List (Int × Int)) × List Int × List Int × List (List Int) × (List (Int × Int)) × (List (Int × Int)) × Int × Int × Int × Int × Int × Int × Int × Int × List Int × Int × Int × Int × Int × Int × Int × Int × Int × Int × Int × Int × Int × Int × Int × Int) × Int × Int × Int) : Prop := ((Lit.int .i64 v.1.1).wf = true ∧ (Lit.int .i64 v.1.2.1).wf = true ∧ (Lit.int .i64 v.1.2.2.1).wf = true ∧ (Lit.int .i64 v.1.2.2.2.1).wf = true ∧ (Lit.int .i64 v.1.2.2.2.2.1).wf = true ∧ (Lit.int .i64 v.1.2.2.2.2.2.1).wf = true ∧ (Lit.int .i64 v.1.2.2.2.2.2.2.1).wf = true ∧ (Lit.int .i64 v.1.2.2.2.2.2.2.2.1).wf = true ∧ (Lit.int .i64 v.1.2.2.2.2.2.2.2.2.1).wf = true ∧ (Lit.int .i64 v.1.2.2.2.2.2.2.2.2.2.1).wf = true ∧ (Lit.int .i64 v.1.2.2.2.2.2.2.2.2.2.2.1).wf = true ∧ (Lit.int .i64 v.1.2.2.2.2.2.2.2.2.2.2.2.1).wf = true ∧ (Lit.int .i64 v.1.2.2.2.2.2.2.2.2.2.2.2.2.2.2.1).wf = true ∧ (Lit.int .i64 v.1.2.2.2.2.2.2.2.2.2.2.2.2.2.2.2.1).wf = true ∧ (Lit.int .i64 v.1.2.2.2.2.2.2.2.2.2.2.2.2.2.2.2.2.1).wf = true ∧ (Lit.int .i64 v.1.2.2.2.2.2.2.2.2.2.2.2.2.2.2.2.2.2.1).wf = true ∧ (Lit.int .i64 v.1.2.2.2.2.2.2.2.2.2.2.2.2.2.2.2.2.2.2.1).wf = true ∧ (Lit.int .i64 v.1.2.2.2.2.2.2.2.2.2.2.2.2.2.2.2.2.2.2.2.1).wf = true ∧ (Lit.int .i64 v.1.2.2.2.2.2.2.2.2.2.2.2.2.2.2.2.2.2.2.2.2.1).wf = true ∧ (Lit.int .i64 v.1.2.2.2.2.2.2.2.2.2.2.2.2.2.2.2.2.2.2.2.2.2.1).wf = true ∧ (Lit.int .i64 v.1.2.2.2.2.2.2.2.2.2.2.2.2.2.2.2.2.2.2.2.2.2.2.2.2.1).wf = true ∧ (Lit.int .i64 v.1.2.2.2.2.2.2.2.2.2.2.2.2.2.2.2.2.2.2.2.2.2.2.2.2.2.1).wf = true ∧ (Lit.int .i64 v.1.2.2.2.2.2.2.2.2.2.2.2.2.2.2.2.2.2.2.2.2.2.2.2.2.2.2.1).wf = true ∧ (Lit.int .i64 v.1.2.2.2.2.2.2.2.2.2.2.2.2.2.2.2.2.2.2.2.2.2.2.2.2.2.2.2.1).wf = true ∧ (Lit.int .i64 v.1.2.2.2.2.2.2.2.2.2.2.2.2.2.2.2.2.2.2.2.2.2.2.2.2.2.2.2.2.1).wf = true ∧ (Lit.int .i64 v.1.2.2.2.2.2.2.2.2.2.2.2.2.2.2.2.2.2.2.2.2.2.2.2.2.2.2.2.2.2.1).wf = true ∧ (Lit.int .i64 v.1.2.2.2.2.2.2.2.2.2.2.2.2.2.2.2.2.2.2.2.2.2.2.2.2.2.2.2.2.2.2.1).wf = true ∧ (Lit.int .i64 v.1.2.2.2.2.2.2.2.2.2.2.2.2.2.2.2.2.2.2.2.2.2.2.2.2.2.2.2.2.2.2.2.1).wf = true ∧ (Lit.int .i64 v.1.2.2.2.2.2.2.2.2.2.2.2.2.2.2.2.2.2.2.2.2.2.2.2.2.2.2.2.2.2.2.2.2.2.2.1).wf = true ∧ (Lit.int .i64 v.1.2.2.2.2.2.2.2.2.2.2.2.2.2.2.2.2.2.2.2.2.2.2.2.2.2.2.2.2.2.2.2.2.2.2.2.1).wf = true ∧ (Lit.int .i64 v.1.2.2.2.2.2.2.2.2.2.2.2.2.2.2.2.2.2.2.2.2.2.2.2.2.2.2.2.2.2.2.2.2.2.2.2.2.1).wf = true ∧ (Lit.int .i64 v.1.2.2.2.2.2.2.2.2.2.2.2.2.2.2.2.2.2.2.2.2.2.2.2.2.2.2.2.2.2.2.2.2.2.2.2.2.2.1).wf = true ∧ (Lit.int .i64 v.1.2.2.2.2.2.2.2.2.2.2.2.2.2.2.2.2.2.2.2.2.2.2.2.2.2.2.2.2.2.2.2.2.2.2.2.2.2.2.1).wf = true ∧ (Lit.int .i64 v.1.2.2.2.2.2.2.2.2.2.2.2.2.2.2.2.2.2.2.2.2.2.2.2.2.2.2.2.2.2.2.2.2.2.2.2.2.2.2.2.1).wf = true ∧ (Lit.int .i64 v.1.2.2.2.2.2.2.2.2.2.2.2.2.2.2.2.2.2.2.2.2.2.2.2.2.2.2.2.2.2.2.2.2.2.2.2.2.2.2.2.2.1).wf = true ∧ (Lit.int .i64 v.1.2.2.2.2.2.2.2.2.2.2.2.2.2.2.2.2.2.2.2.2.2.2.2.2.2.2.2.2.2.2.2.2.2.2.2.2.2.2.2.2.2.1).wf = true ∧ (Lit.int .i64 v.1.2.2.2.2.2.2.2.2.2.2.2.2.2.2.2.2.2.2.2.2.2.2.2.2.2.2.2.2.2.2.2.2.2.2.2.2.2.2.2.2.2.2.2.2.1).wf = true ∧ (Lit.int .i64 v.1.2.2.2.2.2.2.2.2.2.2.2.2.2.2.2.2.2.2.2.2.2.2.2.2.2.2.2.2.2.2.2.2.2.2.2.2.2.2.2.2.2.2.2.2.2.1).wf = true ∧ (((v.1.2.2.2.2.2.2.2.2.2.2.2.2.2.2.2.2.2.2.2.2.2.2.2.2.2.2.2.2.2.2.2.2.2.2.2.2.2.2.2.2.2.2.2.2.2.2.1).length ≤ maxLen ∧ ∀ x ∈ v.1.2.2.2.2.2.2.2.2.2.2.2.2.2.2.2.2.2.2.2.2.2.2.2.2.2.2.2.2.2.2.2.2.2.2.2.2.2.2.2.2.2.2.2.2.2.2.1, (Lit.int .i64 x.1).wf = true ∧ (Lit.int .i64 x.2).wf = true)) ∧ (((v.1.2.2.2.2.2.2.2.2.2.2.2.2.2.2.2.2.2.2.2.2.2.2.2.2.2.2.2.2.2.2.2.2.2.2.2.2.2.2.2.2.2.2.2.2.2.2.2.1).length ≤ maxLen ∧ ∀ x ∈ v.1.2.2.2.2.2.2.2.2.2.2.2.2.2.2.2.2.2.2.2.2.2.2.2.2.2.2.2.2.2.2.2.2.2.2.2.2.2.2.2.2.2.2.2.2.2.2.2.1, (Lit.int .i64 x).wf = true)) ∧ (((v.1.2.2.2.2.2.2.2.2.2.2.2.2.2.2.2.2.2.2.2.2.2.2.2.2.2.2.2.2.2.2.2.2.2.2.2.2.2.2.2.2.2.2.2.2.2.2.2.2.1).length ≤ maxLen ∧ ∀ x ∈ v.1.2.2.2.2.2.2.2.2.2.2.2.2.2.2.2.2.2.2.2.2.2.2.2.2.2.2.2.2.2.2.2.2.2.2.2.2.2.2.2.2.2.2.2.2.2.2.2.2.1, (Lit.int .i64 x).wf = true)) ∧ (((v.1.2.2.2.2.2.2.2.2.2.2.2.2.2.2.2.2.2.2.2.2.2.2.2.2.2.2.2.2.2.2.2.2.2.2.2.2.2.2.2.2.2.2.2.2.2.2.2.2.2.1).length ≤ maxLen ∧ ∀ x ∈ v.1.2.2.2.2.2.2.2.2.2.2.2.2.2.2.2.2.2.2.2.2.2.2.2.2.2.2.2.2.2.2.2.2.2.2.2.2.2.2.2.2.2.2.2.2.2.2.2.2.2.1, (((x).length ≤ maxLen ∧ ∀ y ∈ x, (Lit.int .i64 y).wf = true)))) ∧ (((v.1.2.2.2.2.2.2.2.2.2.2.2.2.2.2.2.2.2.2.2.2.2.2.2.2.2.2.2.2.2.2.2.2.2.2.2.2.2.2.2.2.2.2.2.2.2.2.2.2.2.2.1).length ≤ maxLen ∧ ∀ x ∈ v.1.2.2.2.2.2.2.2.2.2.2.2.2.2.2.2.2.2.2.2.2.2.2.2.2.2.2.2.2.2.2.2.2.2.2.2.2.2.2.2.2.2.2.2.2.2.2.2.2.2.2.1, (Lit.int .i64 x.1).wf = true ∧ (Lit.int .i64 x.2).wf = true)) ∧ (((v.1.2.2.2.2.2.2.2.2.2.2.2.2.2.2.2.2.2.2.2.2.2.2.2.2.2.2.2.2.2.2.2.2.2.2.2.2.2.2.2.2.2.2.2.2.2.2.2.2.2.2.2.1).length ≤ maxLen ∧ ∀ x ∈ v.1.2.2.2.2.2.2.2.2.2.2.2.2.2.2.2.2.2.2.2.2.2.2.2.2.2.2.2.2.2.2.2.2.2.2.2.2.2.2.2.2.2.2.2.2.2.2.2.2.2.2.2.1, (Lit.int .i64 x.1).wf = true ∧ (Lit.int .i64 x.2).wf = true)) ∧ (Lit.int .i64 v.1.2.2.2.2.2.2.2.2.2.2.2.2.2.2.2.2.2.2.2.2.2.2.2.2.2.2.2.2.2.2.2.2.2.2.2.2.2.2.2.2.2.2.2.2.2.2.2.2.2.2.2.2.1).wf = true ∧ (Lit.int .i64 v.1.2.2.2.2.2.2.2.2.2.2.2.2.2.2.2.2.2.2.2.2.2.2.2.2.2.2.2.2.2.2.2.2.2.2.2.2.2.2.2.2.2.2.2.2.2.2.2.2.2.2.2.2.2.1).wf = true ∧ (Lit.int .i64 v.1.2.2.2.2.2.2.2.2.2.2.2.2.2.2.2.2.2.2.2.2.2.2.2.2.2.2.2.2.2.2.2.2.2.2.2.2.2.2.2.2.2.2.2.2.2.2.2.2.2.2.2.2.2.2.1).wf = true ∧ (Lit.int .i64 v.1.2.2.2.2.2.2.2.2.2.2.2.2.2.2.2.2.2.2.2.2.2.2.2.2.2.2.2.2.2.2.2.2.2.2.2.2.2.2.2.2.2.2.2.2.2.2.2.2.2.2.2.2.2.2.2.1).wf = true ∧ (Lit.int .i64 v.1.2.2.2.2.2.2.2.2.2.2.2.2.2.2.2.2.2.2.2.2.2.2.2.2.2.2.2.2.2.2.2.2.2.2.2.2.2.2.2.2.2.2.2.2.2.2.2.2.2.2.2.2.2.2.2.2.1).wf = true ∧ (Lit.int .i64 v.1.2.2.2.2.2.2.2.2.2.2.2.2.2.2.2.2.2.2.2.2.2.2.2.2.2.2.2.2.2.2.2.2.2.2.2.2.2.2.2.2.2.2.2.2.2.2.2.2.2.2.2.2.2.2.2.2.2.1).wf = true ∧ (Lit.int .i64 v.1.2.2.2.2.2.2.2.2.2.2.2.2.2.2.2.2.2.2.2.2.2.2.2.2.2.2.2.2.2.2.2.2.2.2.2.2.2.2.2.2.2.2.2.2.2.2.2.2.2.2.2.2.2.2.2.2.2.2.1).wf = true ∧ (Lit.int .i64 v.1.2.2.2.2.2.2.2.2.2.2.2.2.2.2.2.2.2.2.2.2.2.2.2.2.2.2.2.2.2.2.2.2.2.2.2.2.2.2.2.2.2.2.2.2.2.2.2.2.2.2.2.2.2.2.2.2.2.2.2.1).wf = true ∧ (((v.1.2.2.2.2.2.2.2.2.2.2.2.2.2.2.2.2.2.2.2.2.2.2.2.2.2.2.2.2.2.2.2.2.2.2.2.2.2.2.2.2.2.2.2.2.2.2.2.2.2.2.2.2.2.2.2.2.2.2.2.2.1).length ≤ maxLen ∧ ∀ x ∈ v.1.2.2.2.2.2.2.2.2.2.2.2.2.2.2.2.2.2.2.2.2.2.2.2.2.2.2.2.2.2.2.2.2.2.2.2.2.2.2.2.2.2.2.2.2.2.2.2.2.2.2.2.2.2.2.2.2.2.2.2.2.1, (Lit.int .i64 x).wf = true)) ∧ (Lit.int .i64 v.1.2.2.2.2.2.2.2.2.2.2.2.2.2.2.2.2.2.2.2.2.2.2.2.2.2.2.2.2.2.2.2.2.2.2.2.2.2.2.2.2.2.2.2.2.2.2.2.2.2.2.2.2.2.2.2.2.2.2.2.2.2.1).wf = true ∧ (Lit.int .i64 v.1.2.2.2.2.2.2.2.2.2.2.2.2.2.2.2.2.2.2.2.2.2.2.2.2.2.2.2.2.2.2.2.2.2.2.2.2.2.2.2.2.2.2.2.2.2.2.2.2.2.2.2.2.2.2.2.2.2.2.2.2.2.2.1).wf = true ∧ (Lit.int .i64 v.1.2.2.2.2.2.2.2.2.2.2.2.2.2.2.2.2.2.2.2.2.2.2.2.2.2.2.2.2.2.2.2.2.2.2.2.2.2.2.2.2.2.2.2.2.2.2.2.2.2.2.2.2.2.2.2.2.2.2.2.2.2.2.2.1).wf = true ∧ (Lit.int .i64 v.1.2.2.2.2.2.2.2.2.2.2.2.2.2.2.2.2.2.2.2.2.2.2.2.2.2.2.2.2.2.2.2.2.2.2.2.2.2.2.2.2.2.2.2.2.2.2.2.2.2.2.2.2.2.2.2.2.2.2.2.2.2.2.2.2.1).wf = true ∧ (Lit.int .i64 v.1.2.2.2.2.2.2.2.2.2.2.2.2.2.2.2.2.2.2.2.2.2.2.2.2.2.2.2.2.2.2.2.2.2.2.2.2.2.2.2.2.2.2.2.2.2.2.2.2.2.2.2.2.2.2.2.2.2.2.2.2.2.2.2.2.2.1).wf = true ∧ (Lit.int .i64 v.1.2.2.2.2.2.2.2.2.2.2.2.2.2.2.2.2.2.2.2.2.2.2.2.2.2.2.2.2.2.2.2.2.2.2.2.2.2.2.2.2.2.2.2.2.2.2.2.2.2.2.2.2.2.2.2.2.2.2.2.2.2.2.2.2.2.2.1).wf = true ∧ (Lit.int .u32 v.1.2.2.2.2.2.2.2.2.2.2.2.2.2.2.2.2.2.2.2.2.2.2.2.2.2.2.2.2.2.2.2.2.2.2.2.2.2.2.2.2.2.2.2.2.2.2.2.2.2.2.2.2.2.2.2.2.2.2.2.2.2.2.2.2.2.2.2.1).wf = true ∧ (Lit.int .u32 v.1.2.2.2.2.2.2.2.2.2.2.2.2.2.2.2.2.2.2.2.2.2.2.2.2.2.2.2.2.2.2.2.2.2.2.2.2.2.2.2.2.2.2.2.2.2.2.2.2.2.2.2.2.2.2.2.2.2.2.2.2.2.2.2.2.2.2.2.2.1).wf = true ∧ (Lit.int .i64 v.1.2.2.2.2.2.2.2.2.2.2.2.2.2.2.2.2.2.2.2.2.2.2.2.2.2.2.2.2.2.2.2.2.2.2.2.2.2.2.2.2.2.2.2.2.2.2.2.2.2.2.2.2.2.2.2.2.2.2.2.2.2.2.2.2.2.2.2.2.2.1).wf = true ∧ (Lit.int .i64 v.1.2.2.2.2.2.2.2.2.2.2.2.2.2.2.2.2.2.2.2.2.2.2.2.2.2.2.2.2.2.2.2.2.2.2.2.2.2.2.2.2.2.2.2.2.2.2.2.2.2.2.2.2.2.2.2.2.2.2.2.2.2.2.2.2.2.2.2.2.2.2.1).wf = true ∧ (Lit.int .i64 v.1.2.2.2.2.2.2.2.2.2.2.2.2.2.2.2.2.2.2.2.2.2.2.2.2.2.2.2.2.2.2.2.2.2.2.2.2.2.2.2.2.2.2.2.2.2.2.2.2.2.2.2.2.2.2.2.2.2.2.2.2.2.2.2.2.2.2.2.2.2.2.2.1).wf = true ∧ (Lit.int .i64 v.1.2.2.2.2.2.2.2.2.2.2.2.2.2.2.2.2.2.2.2.2.2.2.2.2.2.2.2.2.2.2.2.2.2.2.2.2.2.2.2.2.2.2.2.2.2.2.2.2.2.2.2.2.2.2.2.2.2.2.2.2.2.2.2.2.2.2.2.2.2.2.2.2.1).wf = true ∧ (Lit.int .i64 v.1.2.2.2.2.2.2.2.2.2.2.2.2.2.2.2.2.2.2.2.2.2.2.2.2.2.2.2.2.2.2.2.2.2.2.2.2.2.2.2.2.2.2.2.2.2.2.2.2.2.2.2.2.2.2.2.2.2.2.2.2.2.2.2.2.2.2.2.2.2.2.2.2.2.1).wf = true ∧ (Lit.int .i64 v.1.2.2.2.2.2.2.2.2.2.2.2.2.2.2.2.2.2.2.2.2.2.2.2.2.2.2.2.2.2.2.2.2.2.2.2.2.2.2.2.2.2.2.2.2.2.2.2.2.2.2.2.2.2.2.2.2.2.2.2.2.2.2.2.2.2.2.2.2.2.2.2.2.2.2.1).wf = true ∧ (Lit.int .i64 v.1.2.2.2.2.2.2.2.2.2.2.2.2.2.2.2.2.2.2.2.2.2.2.2.2.2.2.2.2.2.2.2.2.2.2.2.2.2.2.2.2.2.2.2.2.2.2.2.2.2.2.2.2.2.2.2.2.2.2.2.2.2.2.2.2.2.2.2.2.2.2.2.2.2.2.2).wf = true) ∧ (Lit.int .u32 v.2.1).wf = true ∧ ((Lit.int .i64 v.2.2.1).wf = true ∧ (Lit.int .i64 v.2.2.2).wf = true)
def Dom4_0 (v : (Int × Int × Int × Int × Int × Int × Int × Int × Int × Int × Int × Int × Bool × Bool × Int × Int × Int × Int × Int × Int × Int × Int × Bool × Bool × Int × Int × Int × Int × Int × Int × Int × Int × Bool × Bool × Int × Int × Int × Int × Int × Int × Int × Int × Bool × Bool × Int × Int × (List (Int × Int)) × List Int × List Int × List (List Int) × (List (Int × Int)) × (List (Int × Int)) × Int × Int × Int × Int × Int × Int × Int × Int × List Int × Int × Int × Int × Int × Int × Int × Int × Int × Int × Int × Int × Int × Int × Int × Int) × Int × Int × Int) : Prop := ((Lit.int .i64 v.1.1).wf = true ∧ (Lit.int .i64 v.1.2.1).wf = true ∧ (Lit.int .i64 v.1.2.2.1).wf = true ∧ (Lit.int .i64 v.1.2.2.2.1).wf = true ∧ (Lit.int .i64 v.1.2.2.2.2.1).wf = true ∧ (Lit.int .i64 v.1.2.2.2.2.2.1).wf = true ∧ (Lit.int .i64 v.1.2.2.2.2.2.2.1).wf = true ∧ (Lit.int .i64 v.1.2.2.2.2.2.2.2.1).wf = true ∧ (Lit.int .i64 v.1.2.2.2.2.2.2.2.2.1).wf = true ∧ (Lit.int .i64 v.1.2.2.2.2.2.2.2.2.2.1).wf = true ∧ (Lit.int .i64 v.1.2.2.2.2.2.2.2.2.2.2.1).wf = true ∧ (Lit.int .i64 v.1.2.2.2.2.2.2.2.2.2.2.2.1).wf = true ∧ (Lit.int .i64 v.1.2.2.2.2.2.2.2.2.2.2.2.2.2.2.1).wf = true ∧ (Lit.int .i64 v.1.2.2.2.2.2.2.2.2.2.2.2.2.2.2.2.1).wf = true ∧ (Lit.int .i64 v.1.2.2.2.2.2.2.2.2.2.2.2.2.2.2.2.2.1).wf = true ∧ (Lit.int .i64 v.1.2.2.2.2.2.2.2.2.2.2.2.2.2.2.2.2.2.1).wf = true ∧ (Lit.int .i64 v.1.2.2.2.2.2.2.2.2.2.2.2.2.2.2.2.2.2.2.1).wf = true ∧ (Lit.int .i64 v.1.2.2.2.2.2.2.2.2.2.2.2.2.2.2.2.2.2.2.2.1).wf = true ∧ (Lit.int .i64 v.1.2.2.2.2.2.2.2.2.2.2.2.2.2.2.2.2.2.2.2.2.1).wf = true ∧ (Lit.int .i64 v.1.2.2.2.2.2.2.2.2.2.2.2.2.2.2.2.2.2.2.2.2.2.1).wf = true ∧ (Lit.int .i64 v.1.2.2.2.2.2.2.2.2.2.2.2.2.2.2.2.2.2.2.2.2.2.2.2.2.1).wf = true ∧ (Lit.int .i64 v.1.2.2.2.2.2.2.2.2.2.2.2.2.2.2.2.2.2.2.2.2.2.2.2.2.2.1).wf = true ∧ (Lit.int .i64 v.1.2.2.2.2.2.2.2.2.2.2.2.2.2.2.2.2.2.2.2.2.2.2.2.2.2.2.1).wf = true ∧ (Lit.int .i64 v.1.2.2.2.2.2.2.2.2.2.2.2.2.2.2.2.2.2.2.2.2.2.2.2.2.2.2.2.1).wf = true ∧ (Lit.int .i64 v.1.2.2.2.2.2.2.2.2.2.2.2.2.2.2.2.2.2.2.2.2.2.2.2.2.2.2.2.2.1).wf = true ∧ (Lit.int .i64 v.1.2.2.2.2.2.2.2.2.2.2.2.2.2.2.2.2.2.2.2.2.2.2.2.2.2.2.2.2.2.1).wf = true ∧ (Lit.int .i64 v.1.2.2.2.2.2.2.2.2.2.2.2.2.2.2.2.2.2.2.2.2.2.2.2.2.2.2.2.2.2.2.1).wf = true ∧ (Lit.int .i64 v.1.2.2.2.2.2.2.2.2.2.2.2.2.2.2.2.2.2.2.2.2.2.2.2.2.2.2.2.2.2.2.2.1).wf = true ∧ (Lit.int .i64 v.1.2.2.2.2.2.2.2.2.2.2.2.2.2.2.2.2.2.2.2.2.2.2.2.2.2.2.2.2.2.2.2.2.2.2.1).wf = true ∧ (Lit.int .i64 v.1.2.2.2.2.2.2.2.2.2.2.2.2.2.2.2.2.2.2.2.2.2.2.2.2.2.2.2.2.2.2.2.2.2.2.2.1).wf = true ∧ (Lit.int .i64 v.1.2.2.2.2.2.2.2.2.2.2.2.2.2.2.2.2.2.2.2.2.2.2.2.2.2.2.2.2.2.2.2.2.2.2.2.2.1).wf = true ∧ (Lit.int .i64 v.1.2.2.2.2.2.2.2.2.2.2.2.2.2.2.2.2.2.2.2.2.2.2.2.2.2.2.2.2.2.2.2.2.2.2.2.2.2.1).wf = true ∧ (Lit.int .i64 v.1.2.2.2.2.2.2.2.2.2.2.2.2.2.2.2.2.2.2.2.2.2.2.2.2.2.2.2.2.2.2.2.2.2.2.2.2.2.2.1).wf = true ∧ (Lit.int .i64 v.1.2.2.2.2.2.2.2.2.2.2.2.2.2.2.2.2.2.2.2.2.2.2.2.2.2.2.2.2.2.2.2.2.2.2.2.2.2.2.2.1).wf = true ∧ (Lit.int .i64 v.1.2.2.2.2.2.2.2.2.2.2.2.2.2.2.2.2.2.2.2.2.2.2.2.2.2.2.2.2.2.2.2.2.2.2.2.2.2.2.2.2.1).wf = true ∧ (Lit.int .i64 v.1.2.2.2.2.2.2.2.2.2.2.2.2.2.2.2.2.2.2.2.2.2.2.2.2.2.2.2.2.2.2.2.2.2.2.2.2.2.2.2.2.2.1).wf = true ∧ (Lit.int .i64 v.1.2.2.2.2.2.2.2.2.2.2.2.2.2.2.2.2.2.2.2.2.2.2.2.2.2.2.2.2.2.2.2.2.2.2.2.2.2.2.2.2.2.2.2.2.1).wf = true ∧ (Lit.int .i64 v.1.2.2.2.2.2.2.2.2.2.2.2.2.2.2.2.2.2.2.2.2.2.2.2.2.2.2.2.2.2.2.2.2.2.2.2.2.2.2.2.2.2.2.2.2.2.1).wf = true ∧ (((v.1.2.2.2.2.2.2.2.2.2.2.2.2.2.2.2.2.2.2.2.2.2.2.2.2.2.2.2.2.2.2.2.2.2.2.2.2.2.2.2.2.2.2.2.2.2.2.1).length ≤ maxLen ∧ ∀ x ∈ v.1.2.2.2.2.2.2.2.2.2.2.2.2.2.2.2.2.2.2.2.2.2.2.2.2.2.2.2.2.2.2.2.2.2.2.2.2.2.2.2.2.2.2.2.2.2.2.1, (Lit.int .i64 x.1).wf = true ∧ (Lit.int .i64 x.2).wf = true)) ∧ (((v.1.2.2.2.2.2.2.2.2.2.2.2.2.2.2.2.2.2.2.2.2.2.2.2.2.2.2.2.2.2.2.2.2.2.2.2.2.2.2.2.2.2.2.2.2.2.2.2.1).length ≤ maxLen ∧ ∀ x ∈ v.1.2.2.2.2.2.2.2.2.2.2.2.2.2.2.2.2.2.2.2.2.2.2.2.2.2.2.2.2.2.2.2.2.2.2.2.2.2.2.2.2.2.2.2.2.2.2.2.1, (Lit.int .i64 x).wf = true)) ∧ (((v.1.2.2.2.2.2.2.2.2.2.2.2.2.2.2.2.2.2.2.2.2.2.2.2.2.2.2.2.2.2.2.2.2.2.2.2.2.2.2.2.2.2.2.2.2.2.2.2.2.1).length ≤ maxLen ∧ ∀ x ∈ v.1.2.2.2.2.2.2.2.2.2.2.2.2.2.2.2.2.2.2.2.2.2.2.2.2.2.2.2.2.2.2.2.2.2.2.2.2.2.2.2.2.2.2.2.2.2.2.2.2.1, (Lit.int .i64 x).wf = true)) ∧ (((v.1.2.2.2.2.2.2.2.2.2.2.2.2.2.2.2.2.2.2.2.2.2.2.2.2.2.2.2.2.2.2.2.2.2.2.2.2.2.2.2.2.2.2.2.2.2.2.2.2.2.1).length ≤ maxLen ∧ ∀ x ∈ v.1.2.2.2.2.2.2.2.2.2.2.2.2.2.2.2.2.2.2.2.2.2.2.2.2.2.2.2.2.2.2.2.2.2.2.2.2.2.2.2.2.2.2.2.2.2.2.2.2.2.1, (((x).length ≤ maxLen ∧ ∀ y ∈ x, (Lit.int .i64 y).wf = true)))) ∧ (((v.1.2.2.2.2.2.2.2.2.2.2.2.2.2.2.2.2.2.2.2.2.2.2.2.2.2.2.2.2.2.2.2.2.2.2.2.2.2.2.2.2.2.2.2.2.2.2.2.2.2.2.1).length ≤ maxLen ∧ ∀ x ∈ v.1.2.2.2.2.2.2.2.2.2.2.2.2.2.2.2.2.2.2.2.2.2.2.2.2.2.2.2.2.2.2.2.2.2.2.2.2.2.2.2.2.2.2.2.2.2.2.2.2.2.2.1, (Lit.int .i64 x.1).wf = true ∧ (Lit.int .i64 x.2).wf = true)) ∧ (((v.1.2.2.2.2.2.2.2.2.2.2.2.2.2.2.2.2.2.2.2.2.2.2.2.2.2.2.2.2.2.2.2.2.2.2.2.2.2.2.2.2.2.2.2.2.2.2.2.2.2.2.2.1).length ≤ maxLen ∧ ∀ x ∈ v.1.2.2.2.2.2.2.2.2.2.2.2.2.2.2.2.2.2.2.2.2.2.2.2.2.2.2.2.2.2.2.2.2.2.2.2.2.2.2.2.2.2.2.2.2.2.2.2.2.2.2.2.1, (Lit.int .i64 x.1).wf = true ∧ (Lit.int .i64 x.2).wf = true)) ∧ (Lit.int .i64 v.1.2.2.2.2.2.2.2.2.2.2.2.2.2.2.2.2.2.2.2.2.2.2.2.2.2.2.2.2.2.2.2.2.2.2.2.2.2.2.2.2.2.2.2.2.2.2.2.2.2.2.2.2.1).wf = true ∧ (Lit.int .i64 v.1.2.2.2.2.2.2.2.2.2.2.2.2.2.2.2.2.2.2.2.2.2.2.2.2.2.2.2.2.2.2.2.2.2.2.2.2.2.2.2.2.2.2.2.2.2.2.2.2.2.2.2.2.2.1).wf = true ∧ (Lit.int .i64 v.1.2.2.2.2.2.2.2.2.2.2.2.2.2.2.2.2.2.2.2.2.2.2.2.2.2.2.2.2.2.2.2.2.2.2.2.2.2.2.2.2.2.2.2.2.2.2.2.2.2.2.2.2.2.2.1).wf = true ∧ (Lit.int .i64 v.1.2.2.2.2.2.2.2.2.2.2.2.2.2.2.2.2.2.2.2.2.2.2.2.2.2.2.2.2.2.2.2.2.2.2.2.2.2.2.2.2.2.2.2.2.2.2.2.2.2.2.2.2.2.2.2.1).wf = true ∧ (Lit.int .i64 v.1.2.2.2.2.2.2.2.2.2.2.2.2.2.2.2.2.2.2.2.2.2.2.2.2.2.2.2.2.2.2.2.2.2.2.2.2.2.2.2.2.2.2.2.2.2.2.2.2.2.2.2.2.2.2.2.2.1).wf = true ∧ (Lit.int .i64 v.1.2.2.2.2.2.2.2.2.2.2.2.2.2.2.2.2.2.2.2.2.2.2.2.2.2.2.2.2.2.2.2.2.2.2.2.2.2.2.2.2.2.2.2.2.2.2.2.2.2.2.2.2.2.2.2.2.2.1).wf = true ∧ (Lit.int .i64 v.1.2.2.2.2.2.2.2.2.2.2.2.2.2.2.2.2.2.2.2.2.2.2.2.2.2.2.2.2.2.2.2.2.2.2.2.2.2.2.2.2.2.2.2.2.2.2.2.2.2.2.2.2.2.2.2.2.2.2.1).wf = true ∧ (Lit.int .i64 v.1.2.2.2.2.2.2.2.2.2.2.2.2.2.2.2.2.2.2.2.2.2.2.2.2.2.2.2.2.2.2.2.2.2.2.2.2.2.2.2.2.2.2.2.2.2.2.2.2.2.2.2.2.2.2.2.2.2.2.2.1).wf = true ∧ (((v.1.2.2.2.2.2.2.2.2.2.2.2.2.2.2.2.2.2.2.2.2.2.2.2.2.2.2.2.2.2.2.2.2.2.2.2.2.2.2.2.2.2.2.2.2.2.2.2.2.2.2.2.2.2.2.2.2.2.2.2.2.1).length ≤ maxLen ∧ ∀ x ∈ v.1.2.2.2.2.2.2.2.2.2.2.2.2.2.2.2.2.2.2.2.2.2.2.2.2.2.2.2.2.2.2.2.2.2.2.2.2.2.2.2.2.2.2.2.2.2.2.2.2.2.2.2.2.2.2.2.2.2.2.2.2.1, (Lit.int .i64 x).wf = true)) ∧ (Lit.int .i64 v.1.2.2.2.2.2.2.2.2.2.2.2.2.2.2.2.2.2.2.2.2.2.2.2.2.2.2.2.2.2.2.2.2.2.2.2.2.2.2.2.2.2.2.2.2.2.2.2.2.2.2.2.2.2.2.2.2.2.2.2.2.2.1).wf = true ∧ (Lit.int .i64 v.1.2.2.2.2.2.2.2.2.2.2.2.2.2.2.2.2.2.2.2.2.2.2.2.2.2.2.2.2.2.2.2.2.2.2.2.2.2.2.2.2.2.2.2.2.2.2.2.2.2.2.2.2.2.2.2.2.2.2.2.2.2.2.1).wf = true ∧ (Lit.int .i64 v.1.2.2.2.2.2.2.2.2.2.2.2.2.2.2.2.2.2.2.2.2.2.2.2.2.2.2.2.2.2.2.2.2.2.2.2.2.2.2.2.2.2.2.2.2.2.2.2.2.2.2.2.2.2.2.2.2.2.2.2.2.2.2.2.1).wf = true ∧ (Lit.int .i64 v.1.2.2.2.2.2.2.2.2.2.2.2.2.2.2.2.2.2.2.2.2.2.2.2.2.2.2.2.2.2.2.2.2.2.2.2.2.2.2.2.2.2.2.2.2.2.2.2.2.2.2.2.2.2.2.2.2.2.2.2.2.2.2.2.2.1).wf = true ∧ (Lit.int .i64 v.1.2.2.2.2.2.2.2.2.2.2.2.2.2.2.2.2.2.2.2.2.2.2.2.2.2.2.2.2.2.2.2.2.2.2.2.2.2.2.2.2.2.2.2.2.2.2.2.2.2.2.2.2.2.2.2.2.2.2.2.2.2.2.2.2.2.1).wf = true ∧ (Lit.int .i64 v.1.2.2.2.2.2.2.2.2.2.2.2.2.2.2.2.2.2.2.2.2.2.2.2.2.2.2.2.2.2.2.2.2.2.2.2.2.2.2.2.2.2.2.2.2.2.2.2.2.2.2.2.2.2.2.2.2.2.2.2.2.2.2.2.2.2.2.1).wf = true ∧ (Lit.int .u32 v.1.2.2.2.2.2.2.2.2.2.2.2.2.2.2.2.2.2.2.2.2.2.2.2.2.2.2.2.2.2.2.2.2.2.2.2.2.2.2.2.2.2.2.2.2.2.2.2.2.2.2.2.2.2.2.2.2.2.2.2.2.2.2.2.2.2.2.2.1).wf = true ∧ (Lit.int .u32 v.1.2.2.2.2.2.2.2.2.2.2.2.2.2.2.2.2.2.2.2.2.2.2.2.2.2.2.2.2.2.2.2.2.2.2.2.2.2.2.2.2.2.2.2.2.2.2.2.2.2.2.2.2.2.2.2.2.2.2.2.2.2.2.2.2.2.2.2.2.1).wf = true ∧ (Lit.int .i64 v.1.2.2.2.2.2.2.2.2.2.2.2.2.2.2.2.2.2.2.2.2.2.2.2.2.2.2.2.2.2.2.2.2.2.2.2.2.2.2.2.2.2.2.2.2.2.2.2.2.2.2.2.2.2.2.2.2.2.2.2.2.2.2.2.2.2.2.2.2.2.1).wf = true ∧ (Lit.int .i64 v.1.2.2.2.2.2.2.2.2.2.2.2.2.2.2.2.2.2.2.2.2.2.2.2.2.2.2.2.2.2.2.2.2.2.2.2.2.2.2.2.2.2.2.2.2.2.2.2.2.2.2.2.2.2.2.2.2.2.2.2.2.2.2.2.2.2.2.2.2.2.2.1).wf = true ∧ (Lit.int .i64 v.1.2.2.2.2.2.2.2.2.2.2.2.2.2.2.2.2.2.2.2.2.2.2.2.2.2.2.2.2.2.2.2.2.2.2.2.2.2.2.2.2.2.2.2.2.2.2.2.2.2.2.2.2.2.2.2.2.2.2.2.2.2.2.2.2.2.2.2.2.2.2.2.1).wf = true ∧ (Lit.int .i64 v.1.2.2.2.2.2.2.2.2.2.2.2.2.2.2.2.2.2.2.2.2.2.2.2.2.2.2.2.2.2.2.2.2.2.2.2.2.2.2.2.2.2.2.2.2.2.2.2.2.2.2.2.2.2.2.2.2.2.2.2.2.2.2.2.2.2.2.2.2.2.2.2.2.1).wf = true ∧ (Lit.int .i64 v.1.2.2.2.2.2.2.2.2.2.2.2.2.2.2.2.2.2.2.2.2.2.2.2.2.2.2.2.2.2.2.2.2.2.2.2.2.2.2.2.2.2.2.2.2.2.2.2.2.2.2.2.2.2.2.2.2.2.2.2.2.2.2.2.2.2.2.2.2.2.2.2.2.2.1).wf = true ∧ (Lit.int .i64 v.1.2.2.2.2.2.2.2.2.2.2.2.2.2.2.2.2.2.2.2.2.2.2.2.2.2.2.2.2.2.2.2.2.2.2.2.2.2.2.2.2.2.2.2.2.2.2.2.2.2.2.2.2.2.2.2.2.2.2.2.2.2.2.2.2.2.2.2.2.2.2.2.2.2.2.1).wf = true ∧ (Lit.int .i64 v.1.2.2.2.2.2.2.2.2.2.2.2.2.2.2.2.2.2.2.2.2.2.2.2.2.2.2.2.2.2.2.2.2.2.2.2.2.2.2.2.2.2.2.2.2.2.2.2.2.2.2.2.2.2.2.2.2.2.2.2.2.2.2.2.2.2.2.2.2.2.2.2.2.2.2.2).wf = true) ∧ (Lit.int .u32 v.2.1).wf = true ∧ ((Lit.int .i64 v.2.2.1).wf = true ∧ (Lit.int .i64 v.2.2.2).wf = true)
def Dom5_0 (v : Int × Int × Int) : Prop := (Lit.int .i64 v.1).wf = true ∧ (Lit.int .i64 v.2.1).wf = true ∧ (Lit.int .i64 v.2.2).wf = true
end Go.Proofs.Ytgjglkogengmbaa.Ev
