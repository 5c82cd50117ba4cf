import Derived.Test.YtfhhpfhmplgndaaXEnv
set_option linter.unusedVariables false
namespace Go.Proofs.Ytfhhpfhmplgndaa.Ev
open Go Go.RowKit
def sc0 : ByteArray := ⟨#[0, 1, 2, 2, 3, 3, 3, 3, 4, 4, 4, 4, 4, 4, 4, 4, 5, 5, 5, 5, 5, 5, 5, 5, 5, 5, 5, 5, 5, 5, 5, 5, 6, 6, 6, 6, 6, 6, 6, 6, 6, 6, 6, 6, 6, 6, 6, 6, 6, 6, 6, 6, 6, 6, 6, 6, 6, 6, 6, 6, 6, 6, 6, 6, 7, 7, 7, 7, 7, 7, 7, 7, 7, 7, 7, 7, 7, 7, 7, 7, 7, 7, 7, 7, 7, 7, 7, 7, 7, 7, 7, 7, 7, 7, 7, 7, 7, 7, 7, 7, 7, 7, 7, 7, 7, 7, 7, 7, 7, 7, 7, 7, 7, 7, 7, 7, 7, 7, 7, 7, 7, 7, 7, 7, 7, 7, 7, 7, 8, 8, 8, 8, 8, 8, 8, 8, 8, 8, 8, 8, 8, 8, 8, 8, 8, 8, 8, 8, 8, 8, 8, 8, 8, 8, 8, 8, 8, 8, 8, 8, 8, 8, 8, 8, 8, 8, 8, 8, 8, 8, 8, 8, 8, 8, 8, 8, 8, 8, 8, 8, 8, 8, 8, 8, 8, 8, 8, 8, 8, 8, 8, 8, 8, 8, 8, 8, 8, 8, 8, 8, 8, 8, 8, 8, 8, 8, 8, 8, 8, 8, 8, 8, 8, 8, 8, 8, 8, 8, 8, 8, 8, 8, 8, 8, 8, 8, 8, 8, 8, 8, 8, 8, 8, 8, 8, 8, 8, 8, 8, 8, 8, 8, 8, 8, 8, 8, 8, 8, 8, 8, 8, 8, 8, 8, 8, 8]⟩
def sc1 : ByteArray := ⟨#[67, 72, 84, 76]⟩
/- chicane/wide.Of -/
abbrev A67_0 : Type := Int
abbrev R67_0 : Type := Int × Int
def v67_0 : Pk G Int := (Pk.fst (pk (Sh.fst (Sh.cons (Sh.int .i64) Sh.nil)) Sh.hnil))
def w67_0 : Wk G (Int × Int) := (Wk.one [(.agg [.keep, .keep])] (Pk.fst (pk (Sh.fst (Sh.cons (Sh.agg (Sh.cons (Sh.int .i64) (Sh.fst (Sh.cons (Sh.int .u64) Sh.nil)))) Sh.nil)) Sh.hnil)))
def F67_0 (v : Int) : Option (Int × Int) :=
  let x16 : Int := (Int.fdiv v (2 ^ 63))
  let x17 : Int := (IntKind.wrap .u64 v)
  some (x16, x17)

noncomputable def k67_0 : List (Known Try.prog E) := []
noncomputable def L67_0 (n id : Nat) (st : St G) : Option (Int × Int) := none
set_option maxRecDepth 100000 in
theorem e67_0 (n : Nat) (v : Int) : ev Try.prog E (oracle k67_0) Try.f67.ntmps (fun x => mem x []) (L67_0 n) (finA Try.prog E Try.f67.results.toList [] w67_0.alts) 4000 [.code (Try.f67.body.getD .skip)] (argSt (v67_0.enc v)) = F67_0 v := by kernel_rfl
theorem ok67_0 : FnOk Try.prog E 67 v67_0.enc F67_0 w67_0.enc :=
  fn_known (fn := Try.f67) (c := (Try.f67.body.getD .skip)) Try.func67 (by kernel_rfl) rfl envOk (oracle_ok k67_0) mixed v67_0 F67_0 w67_0 [] [] 4000 L67_0 (by kernel_rfl)
    (fun _ h => nomatch h) (fun v _ h => ⟨0, (e67_0 _ v).trans h⟩) (fun _ => by kernel_rfl) (fun _ => by kernel_rfl) (fun _ _ => by kernel_rfl)
/- math/bits.Add64 -/
abbrev A96_x : Type := Int × Int × Int
abbrev R96_x : Type := Int × Int
def v96_x : Pk G (Int × Int × Int) := p3u
def w96_x : Wk G (Int × Int) := Wk.one [.keep, .keep] p2u
def F96_x (v : Int × Int × Int) : Option (Int × Int) := add64F v
theorem ok96_x : FnOk Try.prog E 96 v96_x.enc F96_x w96_x.enc := add64_known Try.func96 (by kernel_rfl) (by kernel_rfl) (by kernel_rfl) (by kernel_rfl)
/- chicane/wide.Add -/
abbrev A68_0 : Type := (Int × Int) × Int × Int
abbrev R68_0 : Type := (Int × Int) × Bool
def v68_0 : Pk G ((Int × Int) × Int × Int) := (Pk.fst (pk (Sh.cons (Sh.agg (Sh.cons (Sh.int .i64) (Sh.fst (Sh.cons (Sh.int .u64) Sh.nil)))) (Sh.fst (Sh.cons (Sh.agg (Sh.cons (Sh.int .i64) (Sh.fst (Sh.cons (Sh.int .u64) Sh.nil)))) Sh.nil))) Sh.hnil))
def w68_0 : Wk G ((Int × Int) × Bool) := (Wk.one [(.agg [.keep, .keep]), .keep] (Pk.fst (pk (Sh.cons (Sh.agg (Sh.cons (Sh.int .i64) (Sh.fst (Sh.cons (Sh.int .u64) Sh.nil)))) (Sh.fst (Sh.cons Sh.bool Sh.nil))) Sh.hnil)))
def F68_0 (v : (Int × Int) × Int × Int) : Option ((Int × Int) × Bool) :=
  (F96_x (v.1.2, (v.2.2, (0 : Int)))).bind fun r34 =>
  let x35 : Int := (IntKind.wrap .u64 v.1.1)
  let x36 : Int := (IntKind.wrap .u64 v.2.1)
  (F96_x (x35, (x36, r34.2))).bind fun r37 =>
  bif ((decide (v.1.1 < (0 : Int))) == (decide (v.2.1 < (0 : Int)))) then
    let x38 : Int := (IntKind.wrap .i64 r37.1)
    bif (!((decide (x38 < (0 : Int))) == (decide (v.1.1 < (0 : Int))))) then
      some (((0 : Int), (0 : Int)), false)
    else
      let x39 : Int := (IntKind.wrap .i64 r37.1)
      some ((x39, r34.1), true)
  else
    let x40 : Int := (IntKind.wrap .i64 r37.1)
    some ((x40, r34.1), true)

noncomputable def k68_0 : List (Known Try.prog E) := [Known.of envOk [1, 1, 1] [.keep, .keep, .keep] v96_x F96_x w96_x ok96_x]
noncomputable def L68_0 (n id : Nat) (st : St G) : Option ((Int × Int) × Bool) := none
set_option maxRecDepth 100000 in
theorem e68_0 (n : Nat) (v : (Int × Int) × Int × Int) : ev Try.prog E (oracle k68_0) Try.f68.ntmps (fun x => mem x []) (L68_0 n) (finA Try.prog E Try.f68.results.toList [] w68_0.alts) 4000 [.code (Try.f68.body.getD .skip)] (argSt (v68_0.enc v)) = F68_0 v := by kernel_rfl
theorem ok68_0 : FnOk Try.prog E 68 v68_0.enc F68_0 w68_0.enc :=
  fn_known (fn := Try.f68) (c := (Try.f68.body.getD .skip)) Try.func68 (by kernel_rfl) rfl envOk (oracle_ok k68_0) mixed v68_0 F68_0 w68_0 [] [] 4000 L68_0 (by kernel_rfl)
    (fun _ h => nomatch h) (fun v _ h => ⟨0, (e68_0 _ v).trans h⟩) (fun _ => by kernel_rfl) (fun _ => by kernel_rfl) (fun _ _ => by kernel_rfl)
/- (*chicane/fx.M).bound -/
abbrev A72_0 : Type := Bool × Bool
abbrev R72_0 : Type := Int × Bool
def v72_0 : Pk G (Bool × Bool) := (pk (Sh.snd (Sh.cons (Sh.ptr 0 0) (Sh.fst (Sh.cons Sh.bool Sh.nil)))) (Sh.fst (Sh.hfix 0 52 (Sh.fst (Sh.cons Sh.bool Sh.nil)) Sh.hnil)))
def w72_0 : Wk G (Int × Bool) := (Wk.one [.keep] (pk (Sh.fst (Sh.cons (Sh.int .i64) Sh.nil)) (Sh.fst (Sh.hfix 0 52 (Sh.fst (Sh.cons Sh.bool Sh.nil)) Sh.hnil))))
def F72_0 (v : Bool × Bool) : Option (Int × Bool) :=
  bif v.1 then
    some ((-9223372036854775808 : Int), true)
  else
    some ((9223372036854775807 : Int), true)

noncomputable def k72_0 : List (Known Try.prog E) := []
noncomputable def L72_0 (n id : Nat) (st : St G) : Option (Int × Bool) := none
set_option maxRecDepth 100000 in
theorem e72_0 (n : Nat) (v : Bool × Bool) : ev Try.prog E (oracle k72_0) Try.f72.ntmps (fun x => mem x []) (L72_0 n) (finA Try.prog E Try.f72.results.toList [(.ptr 0 0 52 [.keep])] w72_0.alts) 4000 [.code (Try.f72.body.getD .skip)] (argSt (v72_0.enc v)) = F72_0 v := by kernel_rfl
theorem ok72_0 : FnOk Try.prog E 72 v72_0.enc F72_0 w72_0.enc :=
  fn_known (fn := Try.f72) (c := (Try.f72.body.getD .skip)) Try.func72 (by kernel_rfl) rfl envOk (oracle_ok k72_0) mixed v72_0 F72_0 w72_0 [(.ptr 0 0 52 [.keep])] [] 4000 L72_0 (by kernel_rfl)
    (fun _ h => nomatch h) (fun v _ h => ⟨0, (e72_0 _ v).trans h⟩) (fun _ => by kernel_rfl) (fun _ => by kernel_rfl) (fun _ _ => by kernel_rfl)
/- chicane/fx.fit -/
abbrev A70_0 : Type := (Int × Int) × Bool
abbrev R70_0 : Type := Int × Bool
def v70_0 : Pk G ((Int × Int) × Bool) := (pk (Sh.fst (Sh.cons (Sh.agg (Sh.cons (Sh.int .i64) (Sh.fst (Sh.cons (Sh.int .u64) Sh.nil)))) (Sh.snd (Sh.cons (Sh.snd (Sh.fn (.func 72) (Sh.snd (Sh.cons (Sh.ptr 0 0) Sh.nil)) Sh.nil)) Sh.nil)))) (Sh.fst (Sh.hfix 0 52 (Sh.fst (Sh.cons Sh.bool Sh.nil)) Sh.hnil)))
def w70_0 : Wk G (Int × Bool) := (Wk.one [.keep] (pk (Sh.fst (Sh.cons (Sh.int .i64) Sh.nil)) (Sh.fst (Sh.hfix 0 52 (Sh.fst (Sh.cons Sh.bool Sh.nil)) Sh.hnil))))
def F70_0 (v : (Int × Int) × Bool) : Option (Int × Bool) :=
  let x50 : Int := (IntKind.wrap .i64 v.1.2)
  let x51 : Int := (Int.fdiv x50 (2 ^ 63))
  bif (v.1.1 != x51) then
    (F72_0 ((decide (v.1.1 < (0 : Int))), v.2)).bind fun r52 =>
    some (r52)
  else
    let x53 : Int := (IntKind.wrap .i64 v.1.2)
    some (x53, v.2)

noncomputable def k70_0 : List (Known Try.prog E) := [Known.of envOk [5, 2] [(.ptr 0 0 52 [.keep]), .keep] v72_0 F72_0 w72_0 ok72_0]
noncomputable def L70_0 (n id : Nat) (st : St G) : Option (Int × Bool) := none
set_option maxRecDepth 100000 in
theorem e70_0 (n : Nat) (v : (Int × Int) × Bool) : ev Try.prog E (oracle k70_0) Try.f70.ntmps (fun x => mem x []) (L70_0 n) (finA Try.prog E Try.f70.results.toList [(.ptr 0 0 52 [.keep])] w70_0.alts) 4000 [.code (Try.f70.body.getD .skip)] (argSt (v70_0.enc v)) = F70_0 v := by kernel_rfl
theorem ok70_0 : FnOk Try.prog E 70 v70_0.enc F70_0 w70_0.enc :=
  fn_known (fn := Try.f70) (c := (Try.f70.body.getD .skip)) Try.func70 (by kernel_rfl) rfl envOk (oracle_ok k70_0) mixed v70_0 F70_0 w70_0 [(.ptr 0 0 52 [.keep])] [] 4000 L70_0 (by kernel_rfl)
    (fun _ h => nomatch h) (fun v _ h => ⟨0, (e70_0 _ v).trans h⟩) (fun _ => by kernel_rfl) (fun _ => by kernel_rfl) (fun _ _ => by kernel_rfl)
/- (*chicane/fx.M).Add -/
abbrev A52_0 : Type := (Int × Int) × Bool
abbrev R52_0 : Type := Int × Bool
def v52_0 : Pk G ((Int × Int) × Bool) := (pk (Sh.snd (Sh.cons (Sh.ptr 0 0) (Sh.cons (Sh.int .i64) (Sh.fst (Sh.cons (Sh.int .i64) Sh.nil))))) (Sh.fst (Sh.hfix 0 52 (Sh.fst (Sh.cons Sh.bool Sh.nil)) Sh.hnil)))
def w52_0 : Wk G (Int × Bool) := (Wk.one [.keep] (pk (Sh.fst (Sh.cons (Sh.int .i64) Sh.nil)) (Sh.fst (Sh.hfix 0 52 (Sh.fst (Sh.cons Sh.bool Sh.nil)) Sh.hnil))))
def F52_0 (v : (Int × Int) × Bool) : Option (Int × Bool) :=
  (F67_0 v.1.1).bind fun r59 =>
  (F67_0 v.1.2).bind fun r60 =>
  (F68_0 (r59, r60)).bind fun r61 =>
  (F70_0 (r61.1, v.2)).bind fun r62 =>
  some (r62)

noncomputable def k52_0 : List (Known Try.prog E) := [Known.of envOk [1] [.keep] v67_0 F67_0 w67_0 ok67_0, Known.of envOk [9, 9] [(.agg [.keep, .keep]), (.agg [.keep, .keep])] v68_0 F68_0 w68_0 ok68_0, Known.of envOk [9, 172] [(.agg [.keep, .keep]), (.fn (.func 72) [(.ptr 0 0 52 [.keep])] [])] v70_0 F70_0 w70_0 ok70_0]
noncomputable def L52_0 (n id : Nat) (st : St G) : Option (Int × Bool) := none
set_option maxRecDepth 100000 in
theorem e52_0 (n : Nat) (v : (Int × Int) × Bool) : ev Try.prog E (oracle k52_0) Try.f52.ntmps (fun x => mem x []) (L52_0 n) (finA Try.prog E Try.f52.results.toList [(.ptr 0 0 52 [.keep])] w52_0.alts) 4000 [.code (Try.f52.body.getD .skip)] (argSt (v52_0.enc v)) = F52_0 v := by kernel_rfl
theorem ok52_0 : FnOk Try.prog E 52 v52_0.enc F52_0 w52_0.enc :=
  fn_known (fn := Try.f52) (c := (Try.f52.body.getD .skip)) Try.func52 (by kernel_rfl) rfl envOk (oracle_ok k52_0) mixed v52_0 F52_0 w52_0 [(.ptr 0 0 52 [.keep])] [] 4000 L52_0 (by kernel_rfl)
    (fun _ h => nomatch h) (fun v _ h => ⟨0, (e52_0 _ v).trans h⟩) (fun _ => by kernel_rfl) (fun _ => by kernel_rfl) (fun _ _ => by kernel_rfl)
/- math/bits.Mul64 -/
abbrev A98_0 : Type := Int × Int
abbrev R98_0 : Type := Int × Int
def v98_0 : Pk G (Int × Int) := (Pk.fst (pk (Sh.cons (Sh.int .u64) (Sh.fst (Sh.cons (Sh.int .u64) Sh.nil))) Sh.hnil))
def w98_0 : Wk G (Int × Int) := (Wk.one [.keep, .keep] (Pk.fst (pk (Sh.cons (Sh.int .u64) (Sh.fst (Sh.cons (Sh.int .u64) Sh.nil))) Sh.hnil)))
def F98_0 (v : Int × Int) : Option (Int × Int) :=
  let x101 : Int := (Go.bits .and .u64 v.1 (4294967295 : Int))
  let x102 : Int := (Int.fdiv v.1 (2 ^ 32))
  let x103 : Int := (Go.bits .and .u64 v.2 (4294967295 : Int))
  let x104 : Int := (Int.fdiv v.2 (2 ^ 32))
  let x105 : Int := (IntKind.wrap .u64 (x101 * x103))
  let x106 : Int := (IntKind.wrap .u64 (x102 * x103))
  let x107 : Int := (Int.fdiv x105 (2 ^ 32))
  let x108 : Int := (IntKind.wrap .u64 (x106 + x107))
  let x109 : Int := (Go.bits .and .u64 x108 (4294967295 : Int))
  let x110 : Int := (Int.fdiv x108 (2 ^ 32))
  let x111 : Int := (IntKind.wrap .u64 (x101 * x104))
  let x112 : Int := (IntKind.wrap .u64 (x109 + x111))
  let x113 : Int := (IntKind.wrap .u64 (x102 * x104))
  let x114 : Int := (IntKind.wrap .u64 (x113 + x110))
  let x115 : Int := (Int.fdiv x112 (2 ^ 32))
  let x116 : Int := (IntKind.wrap .u64 (x114 + x115))
  let x117 : Int := (IntKind.wrap .u64 (v.1 * v.2))
  some (x116, x117)

noncomputable def k98_0 : List (Known Try.prog E) := []
noncomputable def L98_0 (n id : Nat) (st : St G) : Option (Int × Int) := none
set_option maxRecDepth 100000 in
theorem e98_0 (n : Nat) (v : Int × Int) : ev Try.prog E (oracle k98_0) Try.f98.ntmps (fun x => mem x []) (L98_0 n) (finA Try.prog E Try.f98.results.toList [] w98_0.alts) 4000 [.code (Try.f98.body.getD .skip)] (argSt (v98_0.enc v)) = F98_0 v := by kernel_rfl
theorem ok98_0 : FnOk Try.prog E 98 v98_0.enc F98_0 w98_0.enc :=
  fn_known (fn := Try.f98) (c := (Try.f98.body.getD .skip)) Try.func98 (by kernel_rfl) rfl envOk (oracle_ok k98_0) mixed v98_0 F98_0 w98_0 [] [] 4000 L98_0 (by kernel_rfl)
    (fun _ h => nomatch h) (fun v _ h => ⟨0, (e98_0 _ v).trans h⟩) (fun _ => by kernel_rfl) (fun _ => by kernel_rfl) (fun _ _ => by kernel_rfl)
/- chicane/wide.Mul -/
abbrev A71_0 : Type := Int × Int
abbrev R71_0 : Type := Int × Int
def v71_0 : Pk G (Int × Int) := (Pk.fst (pk (Sh.cons (Sh.int .i64) (Sh.fst (Sh.cons (Sh.int .i64) Sh.nil))) Sh.hnil))
def w71_0 : Wk G (Int × Int) := (Wk.one [(.agg [.keep, .keep])] (Pk.fst (pk (Sh.fst (Sh.cons (Sh.agg (Sh.cons (Sh.int .i64) (Sh.fst (Sh.cons (Sh.int .u64) Sh.nil)))) Sh.nil)) Sh.hnil)))
def F71_0 (v : Int × Int) : Option (Int × Int) :=
  let x142 : Int := (IntKind.wrap .u64 v.1)
  let x143 : Int := (IntKind.wrap .u64 v.2)
  (F98_0 (x142, x143)).bind fun r144 =>
  bif (decide (v.1 < (0 : Int))) then
    let x145 : Int := (IntKind.wrap .u64 v.2)
    let x146 : Int := (IntKind.wrap .u64 (r144.1 - x145))
    bif (decide (v.2 < (0 : Int))) then
      let x147 : Int := (IntKind.wrap .u64 v.1)
      let x148 : Int := (IntKind.wrap .u64 (x146 - x147))
      let x149 : Int := (IntKind.wrap .i64 x148)
      some (x149, r144.2)
    else
      let x150 : Int := (IntKind.wrap .i64 x146)
      some (x150, r144.2)
  else
    bif (decide (v.2 < (0 : Int))) then
      let x151 : Int := (IntKind.wrap .u64 v.1)
      let x152 : Int := (IntKind.wrap .u64 (r144.1 - x151))
      let x153 : Int := (IntKind.wrap .i64 x152)
      some (x153, r144.2)
    else
      let x154 : Int := (IntKind.wrap .i64 r144.1)
      some (x154, r144.2)

noncomputable def k71_0 : List (Known Try.prog E) := [Known.of envOk [1, 1] [.keep, .keep] v98_0 F98_0 w98_0 ok98_0]
noncomputable def L71_0 (n id : Nat) (st : St G) : Option (Int × Int) := none
set_option maxRecDepth 100000 in
theorem e71_0 (n : Nat) (v : Int × Int) : ev Try.prog E (oracle k71_0) Try.f71.ntmps (fun x => mem x []) (L71_0 n) (finA Try.prog E Try.f71.results.toList [] w71_0.alts) 4000 [.code (Try.f71.body.getD .skip)] (argSt (v71_0.enc v)) = F71_0 v := by kernel_rfl
theorem ok71_0 : FnOk Try.prog E 71 v71_0.enc F71_0 w71_0.enc :=
  fn_known (fn := Try.f71) (c := (Try.f71.body.getD .skip)) Try.func71 (by kernel_rfl) rfl envOk (oracle_ok k71_0) mixed v71_0 F71_0 w71_0 [] [] 4000 L71_0 (by kernel_rfl)
    (fun _ h => nomatch h) (fun v _ h => ⟨0, (e71_0 _ v).trans h⟩) (fun _ => by kernel_rfl) (fun _ => by kernel_rfl) (fun _ _ => by kernel_rfl)
/- (*chicane/fx.M).Of -/
abbrev A32_0 : Type := Int × Bool
abbrev R32_0 : Type := Int × Bool
def v32_0 : Pk G (Int × Bool) := (pk (Sh.snd (Sh.cons (Sh.ptr 0 0) (Sh.fst (Sh.cons (Sh.int .i64) Sh.nil)))) (Sh.fst (Sh.hfix 0 52 (Sh.fst (Sh.cons Sh.bool Sh.nil)) Sh.hnil)))
def w32_0 : Wk G (Int × Bool) := (Wk.one [.keep] (pk (Sh.fst (Sh.cons (Sh.int .i64) Sh.nil)) (Sh.fst (Sh.hfix 0 52 (Sh.fst (Sh.cons Sh.bool Sh.nil)) Sh.hnil))))
def F32_0 (v : Int × Bool) : Option (Int × Bool) :=
  (F71_0 (v.1, (4294967296 : Int))).bind fun r159 =>
  (F70_0 (r159, v.2)).bind fun r160 =>
  some (r160)

noncomputable def k32_0 : List (Known Try.prog E) := [Known.of envOk [1, 1] [.keep, .keep] v71_0 F71_0 w71_0 ok71_0, Known.of envOk [9, 172] [(.agg [.keep, .keep]), (.fn (.func 72) [(.ptr 0 0 52 [.keep])] [])] v70_0 F70_0 w70_0 ok70_0]
noncomputable def L32_0 (n id : Nat) (st : St G) : Option (Int × Bool) := none
set_option maxRecDepth 100000 in
theorem e32_0 (n : Nat) (v : Int × Bool) : ev Try.prog E (oracle k32_0) Try.f32.ntmps (fun x => mem x []) (L32_0 n) (finA Try.prog E Try.f32.results.toList [(.ptr 0 0 52 [.keep])] w32_0.alts) 4000 [.code (Try.f32.body.getD .skip)] (argSt (v32_0.enc v)) = F32_0 v := by kernel_rfl
theorem ok32_0 : FnOk Try.prog E 32 v32_0.enc F32_0 w32_0.enc :=
  fn_known (fn := Try.f32) (c := (Try.f32.body.getD .skip)) Try.func32 (by kernel_rfl) rfl envOk (oracle_ok k32_0) mixed v32_0 F32_0 w32_0 [(.ptr 0 0 52 [.keep])] [] 4000 L32_0 (by kernel_rfl)
    (fun _ h => nomatch h) (fun v _ h => ⟨0, (e32_0 _ v).trans h⟩) (fun _ => by kernel_rfl) (fun _ => by kernel_rfl) (fun _ _ => by kernel_rfl)
/- (*chicane/fx.M).nought -/
abbrev A87_0 : Type := Int × Bool
abbrev R87_0 : Type := Int × Bool
def v87_0 : Pk G (Int × Bool) := (pk (Sh.snd (Sh.cons (Sh.ptr 0 0) (Sh.fst (Sh.cons (Sh.int .i64) Sh.nil)))) (Sh.fst (Sh.hfix 0 52 (Sh.fst (Sh.cons Sh.bool Sh.nil)) Sh.hnil)))
def w87_0 : Wk G (Int × Bool) := (Wk.one [.keep] (pk (Sh.fst (Sh.cons (Sh.int .i64) Sh.nil)) (Sh.fst (Sh.hfix 0 52 (Sh.fst (Sh.cons Sh.bool Sh.nil)) Sh.hnil))))
def F87_0 (v : Int × Bool) : Option (Int × Bool) :=
  (F72_0 ((decide (v.1 < (0 : Int))), v.2)).bind fun r164 =>
  bif (v.1 == (0 : Int)) then
    some ((0 : Int), r164.2)
  else
    some (r164)

noncomputable def k87_0 : List (Known Try.prog E) := [Known.of envOk [5, 2] [(.ptr 0 0 52 [.keep]), .keep] v72_0 F72_0 w72_0 ok72_0]
noncomputable def L87_0 (n id : Nat) (st : St G) : Option (Int × Bool) := none
set_option maxRecDepth 100000 in
theorem e87_0 (n : Nat) (v : Int × Bool) : ev Try.prog E (oracle k87_0) Try.f87.ntmps (fun x => mem x []) (L87_0 n) (finA Try.prog E Try.f87.results.toList [(.ptr 0 0 52 [.keep])] w87_0.alts) 4000 [.code (Try.f87.body.getD .skip)] (argSt (v87_0.enc v)) = F87_0 v := by kernel_rfl
theorem ok87_0 : FnOk Try.prog E 87 v87_0.enc F87_0 w87_0.enc :=
  fn_known (fn := Try.f87) (c := (Try.f87.body.getD .skip)) Try.func87 (by kernel_rfl) rfl envOk (oracle_ok k87_0) mixed v87_0 F87_0 w87_0 [(.ptr 0 0 52 [.keep])] [] 4000 L87_0 (by kernel_rfl)
    (fun _ h => nomatch h) (fun v _ h => ⟨0, (e87_0 _ v).trans h⟩) (fun _ => by kernel_rfl) (fun _ => by kernel_rfl) (fun _ _ => by kernel_rfl)
/- math/bits.Sub64 -/
abbrev A65_x : Type := Int × Int × Int
abbrev R65_x : Type := Int × Int
def v65_x : Pk G (Int × Int × Int) := p3u
def w65_x : Wk G (Int × Int) := Wk.one [.keep, .keep] p2u
def F65_x (v : Int × Int × Int) : Option (Int × Int) := sub64F v
theorem ok65_x : FnOk Try.prog E 65 v65_x.enc F65_x w65_x.enc := sub64_known Try.func65 (by kernel_rfl) (by kernel_rfl) (by kernel_rfl) (by kernel_rfl)
/- chicane/wide.sized -/
abbrev A108_0 : Type := Int × Int
abbrev R108_0 : Type := (Int × Int) × Bool
def v108_0 : Pk G (Int × Int) := (Pk.fst (pk (Sh.fst (Sh.cons (Sh.agg (Sh.cons (Sh.int .i64) (Sh.fst (Sh.cons (Sh.int .u64) Sh.nil)))) Sh.nil)) Sh.hnil))
def w108_0 : Wk G ((Int × Int) × Bool) := (Wk.one [(.agg [.keep, .keep]), .keep] (Pk.fst (pk (Sh.cons (Sh.agg (Sh.cons (Sh.int .u64) (Sh.fst (Sh.cons (Sh.int .u64) Sh.nil)))) (Sh.fst (Sh.cons Sh.bool Sh.nil))) Sh.hnil)))
def F108_0 (v : Int × Int) : Option ((Int × Int) × Bool) :=
  bif (decide (v.1 ≥ (0 : Int))) then
    let x177 : Int := (IntKind.wrap .u64 v.1)
    some ((x177, v.2), false)
  else
    (F65_x ((0 : Int), (v.2, (0 : Int)))).bind fun r178 =>
    let x179 : Int := (IntKind.wrap .u64 v.1)
    (F65_x ((0 : Int), (x179, r178.2))).bind fun r180 =>
    some ((r180.1, r178.1), true)

noncomputable def k108_0 : List (Known Try.prog E) := [Known.of envOk [1, 1, 1] [.keep, .keep, .keep] v65_x F65_x w65_x ok65_x]
noncomputable def L108_0 (n id : Nat) (st : St G) : Option ((Int × Int) × Bool) := none
set_option maxRecDepth 100000 in
theorem e108_0 (n : Nat) (v : Int × Int) : ev Try.prog E (oracle k108_0) Try.f108.ntmps (fun x => mem x []) (L108_0 n) (finA Try.prog E Try.f108.results.toList [] w108_0.alts) 4000 [.code (Try.f108.body.getD .skip)] (argSt (v108_0.enc v)) = F108_0 v := by kernel_rfl
theorem ok108_0 : FnOk Try.prog E 108 v108_0.enc F108_0 w108_0.enc :=
  fn_known (fn := Try.f108) (c := (Try.f108.body.getD .skip)) Try.func108 (by kernel_rfl) rfl envOk (oracle_ok k108_0) mixed v108_0 F108_0 w108_0 [] [] 4000 L108_0 (by kernel_rfl)
    (fun _ h => nomatch h) (fun v _ h => ⟨0, (e108_0 _ v).trans h⟩) (fun _ => by kernel_rfl) (fun _ => by kernel_rfl) (fun _ _ => by kernel_rfl)
/- math/bits.Len64 -/
abbrev A116_0 : Type := Int
abbrev R116_0 : Type := Int
def v116_0 : Pk G Int := (Pk.fst (pk (Sh.fst (Sh.cons (Sh.int .u64) Sh.nil)) Sh.hnil))
def w116_0 : Wk G Int := (Wk.one [.keep] (Pk.fst (pk (Sh.fst (Sh.cons (Sh.int .i64) Sh.nil)) Sh.hnil)))
def F116_0 (v : Int) : Option Int :=
  bif (decide (v ≥ (4294967296 : Int))) then
    let x264 : Int := (Int.fdiv v (2 ^ 32))
    bif (decide (x264 ≥ (65536 : Int))) then
      let x265 : Int := (Int.fdiv x264 (2 ^ 16))
      bif (decide (x265 ≥ (256 : Int))) then
        let x266 : Int := (Int.fdiv x265 (2 ^ 8))
        let x267 : Int := (IntKind.wrap .u8 x266)
        (rdb sc0 x267).bind fun (x268 : UInt8) =>
        let x269 : Int := (IntKind.wrap .i64 (x268.toNat : Int))
        let x270 : Int := (IntKind.wrap .i64 ((56 : Int) + x269))
        some (x270)
      else
        let x271 : Int := (IntKind.wrap .u8 x265)
        (rdb sc0 x271).bind fun (x272 : UInt8) =>
        let x273 : Int := (IntKind.wrap .i64 (x272.toNat : Int))
        let x274 : Int := (IntKind.wrap .i64 ((48 : Int) + x273))
        some (x274)
    else
      bif (decide (x264 ≥ (256 : Int))) then
        let x275 : Int := (Int.fdiv x264 (2 ^ 8))
        let x276 : Int := (IntKind.wrap .u8 x275)
        (rdb sc0 x276).bind fun (x277 : UInt8) =>
        let x278 : Int := (IntKind.wrap .i64 (x277.toNat : Int))
        let x279 : Int := (IntKind.wrap .i64 ((40 : Int) + x278))
        some (x279)
      else
        let x280 : Int := (IntKind.wrap .u8 x264)
        (rdb sc0 x280).bind fun (x281 : UInt8) =>
        let x282 : Int := (IntKind.wrap .i64 (x281.toNat : Int))
        let x283 : Int := (IntKind.wrap .i64 ((32 : Int) + x282))
        some (x283)
  else
    bif (decide (v ≥ (65536 : Int))) then
      let x284 : Int := (Int.fdiv v (2 ^ 16))
      bif (decide (x284 ≥ (256 : Int))) then
        let x285 : Int := (Int.fdiv x284 (2 ^ 8))
        let x286 : Int := (IntKind.wrap .u8 x285)
        (rdb sc0 x286).bind fun (x287 : UInt8) =>
        let x288 : Int := (IntKind.wrap .i64 (x287.toNat : Int))
        let x289 : Int := (IntKind.wrap .i64 ((24 : Int) + x288))
        some (x289)
      else
        let x290 : Int := (IntKind.wrap .u8 x284)
        (rdb sc0 x290).bind fun (x291 : UInt8) =>
        let x292 : Int := (IntKind.wrap .i64 (x291.toNat : Int))
        let x293 : Int := (IntKind.wrap .i64 ((16 : Int) + x292))
        some (x293)
    else
      bif (decide (v ≥ (256 : Int))) then
        let x294 : Int := (Int.fdiv v (2 ^ 8))
        let x295 : Int := (IntKind.wrap .u8 x294)
        (rdb sc0 x295).bind fun (x296 : UInt8) =>
        let x297 : Int := (IntKind.wrap .i64 (x296.toNat : Int))
        let x298 : Int := (IntKind.wrap .i64 ((8 : Int) + x297))
        some (x298)
      else
        let x299 : Int := (IntKind.wrap .u8 v)
        (rdb sc0 x299).bind fun (x300 : UInt8) =>
        let x301 : Int := (IntKind.wrap .i64 (x300.toNat : Int))
        let x302 : Int := (IntKind.wrap .i64 ((0 : Int) + x301))
        some (x302)

noncomputable def k116_0 : List (Known Try.prog E) := []
noncomputable def L116_0 (n id : Nat) (st : St G) : Option Int := none
set_option maxRecDepth 100000 in
theorem e116_0 (n : Nat) (v : Int) : ev Try.prog E (oracle k116_0) Try.f116.ntmps (fun x => mem x []) (L116_0 n) (finA Try.prog E Try.f116.results.toList [] w116_0.alts) 4000 [.code (Try.f116.body.getD .skip)] (argSt (v116_0.enc v)) = F116_0 v := by kernel_rfl
theorem ok116_0 : FnOk Try.prog E 116 v116_0.enc F116_0 w116_0.enc :=
  fn_known (fn := Try.f116) (c := (Try.f116.body.getD .skip)) Try.func116 (by kernel_rfl) rfl envOk (oracle_ok k116_0) mixed v116_0 F116_0 w116_0 [] [] 4000 L116_0 (by kernel_rfl)
    (fun _ h => nomatch h) (fun v _ h => ⟨0, (e116_0 _ v).trans h⟩) (fun _ => by kernel_rfl) (fun _ => by kernel_rfl) (fun _ _ => by kernel_rfl)
/- math/bits.LeadingZeros64 -/
abbrev A115_0 : Type := Int
abbrev R115_0 : Type := Int
def v115_0 : Pk G Int := (Pk.fst (pk (Sh.fst (Sh.cons (Sh.int .u64) Sh.nil)) Sh.hnil))
def w115_0 : Wk G Int := (Wk.one [.keep] (Pk.fst (pk (Sh.fst (Sh.cons (Sh.int .i64) Sh.nil)) Sh.hnil)))
def F115_0 (v : Int) : Option Int :=
  (F116_0 v).bind fun r307 =>
  let x308 : Int := (IntKind.wrap .i64 ((64 : Int) - r307))
  some (x308)

noncomputable def k115_0 : List (Known Try.prog E) := [Known.of envOk [1] [.keep] v116_0 F116_0 w116_0 ok116_0]
noncomputable def L115_0 (n id : Nat) (st : St G) : Option Int := none
set_option maxRecDepth 100000 in
theorem e115_0 (n : Nat) (v : Int) : ev Try.prog E (oracle k115_0) Try.f115.ntmps (fun x => mem x []) (L115_0 n) (finA Try.prog E Try.f115.results.toList [] w115_0.alts) 4000 [.code (Try.f115.body.getD .skip)] (argSt (v115_0.enc v)) = F115_0 v := by kernel_rfl
theorem ok115_0 : FnOk Try.prog E 115 v115_0.enc F115_0 w115_0.enc :=
  fn_known (fn := Try.f115) (c := (Try.f115.body.getD .skip)) Try.func115 (by kernel_rfl) rfl envOk (oracle_ok k115_0) mixed v115_0 F115_0 w115_0 [] [] 4000 L115_0 (by kernel_rfl)
    (fun _ h => nomatch h) (fun v _ h => ⟨0, (e115_0 _ v).trans h⟩) (fun _ => by kernel_rfl) (fun _ => by kernel_rfl) (fun _ _ => by kernel_rfl)
/- math/bits.Div64 -/
abbrev A109_0 : Type := Int × Int × Int
abbrev R109_0 : Type := Int × Int
def v109_0 : Pk G (Int × Int × Int) := (Pk.fst (pk (Sh.cons (Sh.int .u64) (Sh.cons (Sh.int .u64) (Sh.fst (Sh.cons (Sh.int .u64) Sh.nil)))) Sh.hnil))
def w109_0 : Wk G (Int × Int) := (Wk.one [.keep, .keep] (Pk.fst (pk (Sh.cons (Sh.int .u64) (Sh.fst (Sh.cons (Sh.int .u64) Sh.nil))) Sh.hnil)))
def c109_0_17 : Pk G (Int × Int × Int × Int × Int × Int × Int × Int × Int) := (Pk.fst (pk (Sh.cons (Sh.int .u64) (Sh.cons (Sh.int .u64) (Sh.cons (Sh.int .u64) (Sh.cons (Sh.int .u64) (Sh.cons (Sh.int .u64) (Sh.cons (Sh.int .u64) (Sh.cons (Sh.int .u64) (Sh.cons (Sh.int .u64) (Sh.fst (Sh.cons (Sh.int .u64) Sh.nil)))))))))) Sh.hnil))
def c109_0_24 : Pk G (Int × Int × Int × Int × Int × Int × Int × Int × Int) := (Pk.fst (pk (Sh.cons (Sh.int .u64) (Sh.cons (Sh.int .u64) (Sh.cons (Sh.int .u64) (Sh.cons (Sh.int .u64) (Sh.cons (Sh.int .u64) (Sh.cons (Sh.int .u64) (Sh.cons (Sh.int .u64) (Sh.cons (Sh.int .u64) (Sh.fst (Sh.cons (Sh.int .u64) Sh.nil)))))))))) Sh.hnil))
def B109_0_17 (K : ((Int × Int × Int × Int × Int × Int × Int × Int × Int) → Option (Int × Int)) × ((Int × Int × Int × Int × Int × Int × Int × Int × Int) → Option (Int × Int))) (v : Int × Int × Int × Int × Int × Int × Int × Int × Int) : Option (Int × Int) :=
  bif (decide (v.2.2.2.2.2.2.2.1 ≥ (4294967296 : Int))) then
    let x603 : Int := (IntKind.wrap .u64 (v.2.2.2.2.2.2.2.1 - (1 : Int)))
    let x604 : Int := (IntKind.wrap .u64 (v.2.2.2.2.2.2.2.2 + v.2.2.1))
    bif (decide (x604 ≥ (4294967296 : Int))) then
      let x605 : Int := (IntKind.wrap .u64 (v.2.2.2.2.1 * (4294967296 : Int)))
      let x606 : Int := (IntKind.wrap .u64 (x605 + v.2.2.2.2.2.1))
      let x607 : Int := (IntKind.wrap .u64 (x603 * v.1))
      let x608 : Int := (IntKind.wrap .u64 (x606 - x607))
      (chk (v.2.2.1 != 0)).bind fun _ =>
      let x609 : Int := (IntKind.wrap .u64 (Int.tdiv x608 v.2.2.1))
      let x610 : Int := (IntKind.wrap .u64 (x609 * v.2.2.1))
      let x611 : Int := (IntKind.wrap .u64 (x608 - x610))
      K.2 (v.1, (v.2.1, (v.2.2.1, (v.2.2.2.1, (v.2.2.2.2.2.2.1, (x603, (x611, (x608, x609))))))))
    else
      K.1 (v.1, (v.2.1, (v.2.2.1, (v.2.2.2.1, (v.2.2.2.2.1, (v.2.2.2.2.2.1, (v.2.2.2.2.2.2.1, (x603, x604))))))))
  else
    let x612 : Int := (IntKind.wrap .u64 (v.2.2.2.2.2.2.2.1 * v.2.2.2.1))
    let x613 : Int := (IntKind.wrap .u64 ((4294967296 : Int) * v.2.2.2.2.2.2.2.2))
    let x614 : Int := (IntKind.wrap .u64 (x613 + v.2.2.2.2.2.1))
    bif (decide (x612 > x614)) then
      let x615 : Int := (IntKind.wrap .u64 (v.2.2.2.2.2.2.2.1 - (1 : Int)))
      let x616 : Int := (IntKind.wrap .u64 (v.2.2.2.2.2.2.2.2 + v.2.2.1))
      bif (decide (x616 ≥ (4294967296 : Int))) then
        let x617 : Int := (IntKind.wrap .u64 (v.2.2.2.2.1 * (4294967296 : Int)))
        let x618 : Int := (IntKind.wrap .u64 (x617 + v.2.2.2.2.2.1))
        let x619 : Int := (IntKind.wrap .u64 (x615 * v.1))
        let x620 : Int := (IntKind.wrap .u64 (x618 - x619))
        (chk (v.2.2.1 != 0)).bind fun _ =>
        let x621 : Int := (IntKind.wrap .u64 (Int.tdiv x620 v.2.2.1))
        let x622 : Int := (IntKind.wrap .u64 (x621 * v.2.2.1))
        let x623 : Int := (IntKind.wrap .u64 (x620 - x622))
        K.2 (v.1, (v.2.1, (v.2.2.1, (v.2.2.2.1, (v.2.2.2.2.2.2.1, (x615, (x623, (x620, x621))))))))
      else
        K.1 (v.1, (v.2.1, (v.2.2.1, (v.2.2.2.1, (v.2.2.2.2.1, (v.2.2.2.2.2.1, (v.2.2.2.2.2.2.1, (x615, x616))))))))
    else
      let x624 : Int := (IntKind.wrap .u64 (v.2.2.2.2.1 * (4294967296 : Int)))
      let x625 : Int := (IntKind.wrap .u64 (x624 + v.2.2.2.2.2.1))
      let x626 : Int := (IntKind.wrap .u64 (v.2.2.2.2.2.2.2.1 * v.1))
      let x627 : Int := (IntKind.wrap .u64 (x625 - x626))
      (chk (v.2.2.1 != 0)).bind fun _ =>
      let x628 : Int := (IntKind.wrap .u64 (Int.tdiv x627 v.2.2.1))
      let x629 : Int := (IntKind.wrap .u64 (x628 * v.2.2.1))
      let x630 : Int := (IntKind.wrap .u64 (x627 - x629))
      K.2 (v.1, (v.2.1, (v.2.2.1, (v.2.2.2.1, (v.2.2.2.2.2.2.1, (v.2.2.2.2.2.2.2.1, (x630, (x627, x628))))))))

def B109_0_24 (K : ((Int × Int × Int × Int × Int × Int × Int × Int × Int) → Option (Int × Int)) × ((Int × Int × Int × Int × Int × Int × Int × Int × Int) → Option (Int × Int))) (v : Int × Int × Int × Int × Int × Int × Int × Int × Int) : Option (Int × Int) :=
  bif (decide (v.2.2.2.2.2.2.2.2 ≥ (4294967296 : Int))) then
    let x631 : Int := (IntKind.wrap .u64 (v.2.2.2.2.2.2.2.2 - (1 : Int)))
    let x632 : Int := (IntKind.wrap .u64 (v.2.2.2.2.2.2.1 + v.2.2.1))
    bif (decide (x632 ≥ (4294967296 : Int))) then
      let x633 : Int := (IntKind.wrap .u64 (v.2.2.2.2.2.1 * (4294967296 : Int)))
      let x634 : Int := (IntKind.wrap .u64 (x633 + x631))
      let x635 : Int := (IntKind.wrap .u64 (v.2.2.2.2.2.2.2.1 * (4294967296 : Int)))
      let x636 : Int := (IntKind.wrap .u64 (x635 + v.2.2.2.2.1))
      let x637 : Int := (IntKind.wrap .u64 (x631 * v.1))
      let x638 : Int := (IntKind.wrap .u64 (x636 - x637))
      (chk (decide (0 ≤ v.2.1))).bind fun _ =>
      let x639 : Int := (Int.fdiv x638 (2 ^ min (v.2.1).toNat 64))
      some (x634, x639)
    else
      K.2 (v.1, (v.2.1, (v.2.2.1, (v.2.2.2.1, (v.2.2.2.2.1, (v.2.2.2.2.2.1, (x632, (v.2.2.2.2.2.2.2.1, x631))))))))
  else
    let x640 : Int := (IntKind.wrap .u64 (v.2.2.2.2.2.2.2.2 * v.2.2.2.1))
    let x641 : Int := (IntKind.wrap .u64 ((4294967296 : Int) * v.2.2.2.2.2.2.1))
    let x642 : Int := (IntKind.wrap .u64 (x641 + v.2.2.2.2.1))
    bif (decide (x640 > x642)) then
      let x643 : Int := (IntKind.wrap .u64 (v.2.2.2.2.2.2.2.2 - (1 : Int)))
      let x644 : Int := (IntKind.wrap .u64 (v.2.2.2.2.2.2.1 + v.2.2.1))
      bif (decide (x644 ≥ (4294967296 : Int))) then
        let x645 : Int := (IntKind.wrap .u64 (v.2.2.2.2.2.1 * (4294967296 : Int)))
        let x646 : Int := (IntKind.wrap .u64 (x645 + x643))
        let x647 : Int := (IntKind.wrap .u64 (v.2.2.2.2.2.2.2.1 * (4294967296 : Int)))
        let x648 : Int := (IntKind.wrap .u64 (x647 + v.2.2.2.2.1))
        let x649 : Int := (IntKind.wrap .u64 (x643 * v.1))
        let x650 : Int := (IntKind.wrap .u64 (x648 - x649))
        (chk (decide (0 ≤ v.2.1))).bind fun _ =>
        let x651 : Int := (Int.fdiv x650 (2 ^ min (v.2.1).toNat 64))
        some (x646, x651)
      else
        K.2 (v.1, (v.2.1, (v.2.2.1, (v.2.2.2.1, (v.2.2.2.2.1, (v.2.2.2.2.2.1, (x644, (v.2.2.2.2.2.2.2.1, x643))))))))
    else
      let x652 : Int := (IntKind.wrap .u64 (v.2.2.2.2.2.1 * (4294967296 : Int)))
      let x653 : Int := (IntKind.wrap .u64 (x652 + v.2.2.2.2.2.2.2.2))
      let x654 : Int := (IntKind.wrap .u64 (v.2.2.2.2.2.2.2.1 * (4294967296 : Int)))
      let x655 : Int := (IntKind.wrap .u64 (x654 + v.2.2.2.2.1))
      let x656 : Int := (IntKind.wrap .u64 (v.2.2.2.2.2.2.2.2 * v.1))
      let x657 : Int := (IntKind.wrap .u64 (x655 - x656))
      (chk (decide (0 ≤ v.2.1))).bind fun _ =>
      let x658 : Int := (Int.fdiv x657 (2 ^ min (v.2.1).toNat 64))
      some (x653, x658)

def E109_0 (K : ((Int × Int × Int × Int × Int × Int × Int × Int × Int) → Option (Int × Int)) × ((Int × Int × Int × Int × Int × Int × Int × Int × Int) → Option (Int × Int))) (v : Int × Int × Int) : Option (Int × Int) :=
  bif (v.2.2 == (0 : Int)) then
    none
  else
    bif (decide (v.2.2 ≤ v.1)) then
      none
    else
      bif (v.1 == (0 : Int)) then
        (chk (v.2.2 != 0)).bind fun _ =>
        let x586 : Int := (IntKind.wrap .u64 (Int.tdiv v.2.1 v.2.2))
        (chk (v.2.2 != 0)).bind fun _ =>
        let x587 : Int := (Int.tmod v.2.1 v.2.2)
        some (x586, x587)
      else
        (F115_0 v.2.2).bind fun r588 =>
        let x589 : Int := (IntKind.wrap .u64 r588)
        (chk (decide (0 ≤ x589))).bind fun _ =>
        let x590 : Int := (IntKind.wrap .u64 (v.2.2 * 2 ^ min (x589).toNat 64))
        let x591 : Int := (Int.fdiv x590 (2 ^ 32))
        let x592 : Int := (Go.bits .and .u64 x590 (4294967295 : Int))
        (chk (decide (0 ≤ x589))).bind fun _ =>
        let x593 : Int := (IntKind.wrap .u64 (v.1 * 2 ^ min (x589).toNat 64))
        let x594 : Int := (IntKind.wrap .u64 ((64 : Int) - x589))
        (chk (decide (0 ≤ x594))).bind fun _ =>
        let x595 : Int := (Int.fdiv v.2.1 (2 ^ min (x594).toNat 64))
        let x596 : Int := (Go.bits .or .u64 x593 x595)
        (chk (decide (0 ≤ x589))).bind fun _ =>
        let x597 : Int := (IntKind.wrap .u64 (v.2.1 * 2 ^ min (x589).toNat 64))
        let x598 : Int := (Int.fdiv x597 (2 ^ 32))
        let x599 : Int := (Go.bits .and .u64 x597 (4294967295 : Int))
        (chk (x591 != 0)).bind fun _ =>
        let x600 : Int := (IntKind.wrap .u64 (Int.tdiv x596 x591))
        let x601 : Int := (IntKind.wrap .u64 (x600 * x591))
        let x602 : Int := (IntKind.wrap .u64 (x596 - x601))
        K.1 (x590, (x589, (x591, (x592, (x596, (x598, (x599, (x600, x602))))))))

def K109_0 : Nat → ((Int × Int × Int × Int × Int × Int × Int × Int × Int) → Option (Int × Int)) × ((Int × Int × Int × Int × Int × Int × Int × Int × Int) → Option (Int × Int))
  | 0 => (fun _ => none, fun _ => none)
  | n + 1 => (B109_0_17 (K109_0 n), B109_0_24 (K109_0 n))
def fuel109_0 (v : Int × Int × Int) : Nat := 1000
def F109_0 (v : Int × Int × Int) : Option (Int × Int) := E109_0 (K109_0 (fuel109_0 v)) v
noncomputable def k109_0 : List (Known Try.prog E) := [Known.of envOk [1] [.keep] v115_0 F115_0 w115_0 ok115_0]
def s109_0_24 : List (Nat × Pat) := [(2, .keep), (8, .keep), (9, .keep), (10, .keep), (14, .keep), (15, .keep), (16, .keep), (17, .keep), (18, .keep)]
def s109_0_17 : List (Nat × Pat) := [(2, .keep), (8, .keep), (9, .keep), (10, .keep), (11, .keep), (13, .keep), (14, .keep), (15, .keep), (16, .keep)]
noncomputable def L109_0 (n id : Nat) (st : St G) : Option (Int × Int) := match Nat.beq id 17 with | true => cutK Try.prog s109_0_17 [] c109_0_17.dec (K109_0 n).1 st | false => match Nat.beq id 24 with | true => cutK Try.prog s109_0_24 [] c109_0_24.dec (K109_0 n).2 st | false => none
set_option maxRecDepth 100000 in
theorem e109_0 (n : Nat) (v : Int × Int × Int) : ev Try.prog E (oracle k109_0) Try.f109.ntmps (fun x => mem x [17, 24]) (L109_0 n) (finA Try.prog E Try.f109.results.toList [] w109_0.alts) 4000 [.code (Try.f109.body.getD .skip)] (argSt (v109_0.enc v)) = E109_0 (K109_0 n) v := by kernel_rfl
set_option maxRecDepth 100000 in
theorem b109_0_17 (n : Nat) (v : Int × Int × Int × Int × Int × Int × Int × Int × Int) : evCut Try.prog E (oracle k109_0) Try.f109.ntmps (fun x => mem x [17, 24]) (L109_0 n) (finA Try.prog E Try.f109.results.toList [] w109_0.alts) 4000 (todoAt (Try.f109.body.getD .skip) 17) (cutSt s109_0_17 (c109_0_17.enc v)) = B109_0_17 (K109_0 n) v := by kernel_rfl
set_option maxRecDepth 100000 in
theorem b109_0_24 (n : Nat) (v : Int × Int × Int × Int × Int × Int × Int × Int × Int) : evCut Try.prog E (oracle k109_0) Try.f109.ntmps (fun x => mem x [17, 24]) (L109_0 n) (finA Try.prog E Try.f109.results.toList [] w109_0.alts) 4000 (todoAt (Try.f109.body.getD .skip) 24) (cutSt s109_0_24 (c109_0_24.enc v)) = B109_0_24 (K109_0 n) v := by kernel_rfl
theorem ok109_0 : FnOk Try.prog E 109 v109_0.enc F109_0 w109_0.enc :=
  fn_known (fn := Try.f109) (c := (Try.f109.body.getD .skip)) Try.func109 (by kernel_rfl) rfl envOk (oracle_ok k109_0) mixed v109_0 F109_0 w109_0 [] [17, 24] 4000 L109_0 (by kernel_rfl)
    (List.forall_mem_cons.2 ⟨⟨_, s109_0_17, c109_0_17.dec, c109_0_17.enc, fun n => (K109_0 n).1, c109_0_17.ok, fun _ _ => rfl, fun _ => rfl, fun n v _ h => (b109_0_17 n v).trans h⟩, List.forall_mem_cons.2 ⟨⟨_, s109_0_24, c109_0_24.dec, c109_0_24.enc, fun n => (K109_0 n).2, c109_0_24.ok, fun _ _ => rfl, fun _ => rfl, fun n v _ h => (b109_0_24 n v).trans h⟩, fun _ h => (nomatch h)⟩⟩) (fun v _ h => ⟨fuel109_0 v, (e109_0 _ v).trans h⟩) (fun _ => by kernel_rfl) (fun _ => by kernel_rfl) (fun _ _ => by kernel_rfl)
/- chicane/wide.Div -/
abbrev A88_0 : Type := (Int × Int) × Int
abbrev R88_0 : Type := Int × Bool
def v88_0 : Pk G ((Int × Int) × Int) := (Pk.fst (pk (Sh.cons (Sh.agg (Sh.cons (Sh.int .i64) (Sh.fst (Sh.cons (Sh.int .u64) Sh.nil)))) (Sh.fst (Sh.cons (Sh.int .i64) Sh.nil))) Sh.hnil))
def w88_0 : Wk G (Int × Bool) := (Wk.one [.keep, .keep] (Pk.fst (pk (Sh.cons (Sh.int .i64) (Sh.fst (Sh.cons Sh.bool Sh.nil))) Sh.hnil)))
def F88_0 (v : (Int × Int) × Int) : Option (Int × Bool) :=
  (F108_0 v.1).bind fun r782 =>
  let x783 : Int := (IntKind.wrap .u64 v.2)
  bif (decide (v.2 < (0 : Int))) then
    let x784 : Int := (IntKind.wrap .u64 (0 - x783))
    bif (decide (r782.1.1 ≥ x784)) then
      some ((0 : Int), false)
    else
      (F109_0 (r782.1.1, (r782.1.2, x784))).bind fun r785 =>
      let x786 : Int := (IntKind.wrap .u64 (x784 - r785.2))
      bif (decide (r785.2 > x786)) then
        bif (decide (r785.2 > (0 : Int))) then
          let x787 : Int := (IntKind.wrap .u64 (r785.1 + (1 : Int)))
          bif (x787 == (0 : Int)) then
            some ((0 : Int), false)
          else
            bif (!r782.2) then
              bif (decide (x787 ≤ (9223372036854775808 : Int))) then
                let x788 : Int := (IntKind.wrap .u64 (0 - x787))
                let x789 : Int := (IntKind.wrap .i64 x788)
                some (x789, true)
              else
                bif (!(!r782.2)) then
                  bif (decide (x787 < (9223372036854775808 : Int))) then
                    let x790 : Int := (IntKind.wrap .i64 x787)
                    some (x790, true)
                  else
                    some ((0 : Int), false)
                else
                  some ((0 : Int), false)
            else
              bif (!(!r782.2)) then
                bif (decide (x787 < (9223372036854775808 : Int))) then
                  let x791 : Int := (IntKind.wrap .i64 x787)
                  some (x791, true)
                else
                  some ((0 : Int), false)
              else
                some ((0 : Int), false)
        else
          bif (!r782.2) then
            bif (decide (r785.1 ≤ (9223372036854775808 : Int))) then
              let x792 : Int := (IntKind.wrap .u64 (0 - r785.1))
              let x793 : Int := (IntKind.wrap .i64 x792)
              some (x793, true)
            else
              bif (!(!r782.2)) then
                bif (decide (r785.1 < (9223372036854775808 : Int))) then
                  let x794 : Int := (IntKind.wrap .i64 r785.1)
                  some (x794, true)
                else
                  some ((0 : Int), false)
              else
                some ((0 : Int), false)
          else
            bif (!(!r782.2)) then
              bif (decide (r785.1 < (9223372036854775808 : Int))) then
                let x795 : Int := (IntKind.wrap .i64 r785.1)
                some (x795, true)
              else
                some ((0 : Int), false)
            else
              some ((0 : Int), false)
      else
        let x796 : Int := (IntKind.wrap .u64 (x784 - r785.2))
        bif (r785.2 == x796) then
          let x797 : Int := (Go.bits .and .u64 r785.1 (1 : Int))
          bif (x797 == (1 : Int)) then
            bif (decide (r785.2 > (0 : Int))) then
              let x798 : Int := (IntKind.wrap .u64 (r785.1 + (1 : Int)))
              bif (x798 == (0 : Int)) then
                some ((0 : Int), false)
              else
                bif (!r782.2) then
                  bif (decide (x798 ≤ (9223372036854775808 : Int))) then
                    let x799 : Int := (IntKind.wrap .u64 (0 - x798))
                    let x800 : Int := (IntKind.wrap .i64 x799)
                    some (x800, true)
                  else
                    bif (!(!r782.2)) then
                      bif (decide (x798 < (9223372036854775808 : Int))) then
                        let x801 : Int := (IntKind.wrap .i64 x798)
                        some (x801, true)
                      else
                        some ((0 : Int), false)
                    else
                      some ((0 : Int), false)
                else
                  bif (!(!r782.2)) then
                    bif (decide (x798 < (9223372036854775808 : Int))) then
                      let x802 : Int := (IntKind.wrap .i64 x798)
                      some (x802, true)
                    else
                      some ((0 : Int), false)
                  else
                    some ((0 : Int), false)
            else
              bif (!r782.2) then
                bif (decide (r785.1 ≤ (9223372036854775808 : Int))) then
                  let x803 : Int := (IntKind.wrap .u64 (0 - r785.1))
                  let x804 : Int := (IntKind.wrap .i64 x803)
                  some (x804, true)
                else
                  bif (!(!r782.2)) then
                    bif (decide (r785.1 < (9223372036854775808 : Int))) then
                      let x805 : Int := (IntKind.wrap .i64 r785.1)
                      some (x805, true)
                    else
                      some ((0 : Int), false)
                  else
                    some ((0 : Int), false)
              else
                bif (!(!r782.2)) then
                  bif (decide (r785.1 < (9223372036854775808 : Int))) then
                    let x806 : Int := (IntKind.wrap .i64 r785.1)
                    some (x806, true)
                  else
                    some ((0 : Int), false)
                else
                  some ((0 : Int), false)
          else
            bif (!r782.2) then
              bif (decide (r785.1 ≤ (9223372036854775808 : Int))) then
                let x807 : Int := (IntKind.wrap .u64 (0 - r785.1))
                let x808 : Int := (IntKind.wrap .i64 x807)
                some (x808, true)
              else
                bif (!(!r782.2)) then
                  bif (decide (r785.1 < (9223372036854775808 : Int))) then
                    let x809 : Int := (IntKind.wrap .i64 r785.1)
                    some (x809, true)
                  else
                    some ((0 : Int), false)
                else
                  some ((0 : Int), false)
            else
              bif (!(!r782.2)) then
                bif (decide (r785.1 < (9223372036854775808 : Int))) then
                  let x810 : Int := (IntKind.wrap .i64 r785.1)
                  some (x810, true)
                else
                  some ((0 : Int), false)
              else
                some ((0 : Int), false)
        else
          bif (!r782.2) then
            bif (decide (r785.1 ≤ (9223372036854775808 : Int))) then
              let x811 : Int := (IntKind.wrap .u64 (0 - r785.1))
              let x812 : Int := (IntKind.wrap .i64 x811)
              some (x812, true)
            else
              bif (!(!r782.2)) then
                bif (decide (r785.1 < (9223372036854775808 : Int))) then
                  let x813 : Int := (IntKind.wrap .i64 r785.1)
                  some (x813, true)
                else
                  some ((0 : Int), false)
              else
                some ((0 : Int), false)
          else
            bif (!(!r782.2)) then
              bif (decide (r785.1 < (9223372036854775808 : Int))) then
                let x814 : Int := (IntKind.wrap .i64 r785.1)
                some (x814, true)
              else
                some ((0 : Int), false)
            else
              some ((0 : Int), false)
  else
    bif (decide (r782.1.1 ≥ x783)) then
      some ((0 : Int), false)
    else
      (F109_0 (r782.1.1, (r782.1.2, x783))).bind fun r815 =>
      let x816 : Int := (IntKind.wrap .u64 (x783 - r815.2))
      bif (decide (r815.2 > x816)) then
        bif (decide (r815.2 > (0 : Int))) then
          let x817 : Int := (IntKind.wrap .u64 (r815.1 + (1 : Int)))
          bif (x817 == (0 : Int)) then
            some ((0 : Int), false)
          else
            bif r782.2 then
              bif (decide (x817 ≤ (9223372036854775808 : Int))) then
                let x818 : Int := (IntKind.wrap .u64 (0 - x817))
                let x819 : Int := (IntKind.wrap .i64 x818)
                some (x819, true)
              else
                bif (!r782.2) then
                  bif (decide (x817 < (9223372036854775808 : Int))) then
                    let x820 : Int := (IntKind.wrap .i64 x817)
                    some (x820, true)
                  else
                    some ((0 : Int), false)
                else
                  some ((0 : Int), false)
            else
              bif (!r782.2) then
                bif (decide (x817 < (9223372036854775808 : Int))) then
                  let x821 : Int := (IntKind.wrap .i64 x817)
                  some (x821, true)
                else
                  some ((0 : Int), false)
              else
                some ((0 : Int), false)
        else
          bif r782.2 then
            bif (decide (r815.1 ≤ (9223372036854775808 : Int))) then
              let x822 : Int := (IntKind.wrap .u64 (0 - r815.1))
              let x823 : Int := (IntKind.wrap .i64 x822)
              some (x823, true)
            else
              bif (!r782.2) then
                bif (decide (r815.1 < (9223372036854775808 : Int))) then
                  let x824 : Int := (IntKind.wrap .i64 r815.1)
                  some (x824, true)
                else
                  some ((0 : Int), false)
              else
                some ((0 : Int), false)
          else
            bif (!r782.2) then
              bif (decide (r815.1 < (9223372036854775808 : Int))) then
                let x825 : Int := (IntKind.wrap .i64 r815.1)
                some (x825, true)
              else
                some ((0 : Int), false)
            else
              some ((0 : Int), false)
      else
        let x826 : Int := (IntKind.wrap .u64 (x783 - r815.2))
        bif (r815.2 == x826) then
          let x827 : Int := (Go.bits .and .u64 r815.1 (1 : Int))
          bif (x827 == (1 : Int)) then
            bif (decide (r815.2 > (0 : Int))) then
              let x828 : Int := (IntKind.wrap .u64 (r815.1 + (1 : Int)))
              bif (x828 == (0 : Int)) then
                some ((0 : Int), false)
              else
                bif r782.2 then
                  bif (decide (x828 ≤ (9223372036854775808 : Int))) then
                    let x829 : Int := (IntKind.wrap .u64 (0 - x828))
                    let x830 : Int := (IntKind.wrap .i64 x829)
                    some (x830, true)
                  else
                    bif (!r782.2) then
                      bif (decide (x828 < (9223372036854775808 : Int))) then
                        let x831 : Int := (IntKind.wrap .i64 x828)
                        some (x831, true)
                      else
                        some ((0 : Int), false)
                    else
                      some ((0 : Int), false)
                else
                  bif (!r782.2) then
                    bif (decide (x828 < (9223372036854775808 : Int))) then
                      let x832 : Int := (IntKind.wrap .i64 x828)
                      some (x832, true)
                    else
                      some ((0 : Int), false)
                  else
                    some ((0 : Int), false)
            else
              bif r782.2 then
                bif (decide (r815.1 ≤ (9223372036854775808 : Int))) then
                  let x833 : Int := (IntKind.wrap .u64 (0 - r815.1))
                  let x834 : Int := (IntKind.wrap .i64 x833)
                  some (x834, true)
                else
                  bif (!r782.2) then
                    bif (decide (r815.1 < (9223372036854775808 : Int))) then
                      let x835 : Int := (IntKind.wrap .i64 r815.1)
                      some (x835, true)
                    else
                      some ((0 : Int), false)
                  else
                    some ((0 : Int), false)
              else
                bif (!r782.2) then
                  bif (decide (r815.1 < (9223372036854775808 : Int))) then
                    let x836 : Int := (IntKind.wrap .i64 r815.1)
                    some (x836, true)
                  else
                    some ((0 : Int), false)
                else
                  some ((0 : Int), false)
          else
            bif r782.2 then
              bif (decide (r815.1 ≤ (9223372036854775808 : Int))) then
                let x837 : Int := (IntKind.wrap .u64 (0 - r815.1))
                let x838 : Int := (IntKind.wrap .i64 x837)
                some (x838, true)
              else
                bif (!r782.2) then
                  bif (decide (r815.1 < (9223372036854775808 : Int))) then
                    let x839 : Int := (IntKind.wrap .i64 r815.1)
                    some (x839, true)
                  else
                    some ((0 : Int), false)
                else
                  some ((0 : Int), false)
            else
              bif (!r782.2) then
                bif (decide (r815.1 < (9223372036854775808 : Int))) then
                  let x840 : Int := (IntKind.wrap .i64 r815.1)
                  some (x840, true)
                else
                  some ((0 : Int), false)
              else
                some ((0 : Int), false)
        else
          bif r782.2 then
            bif (decide (r815.1 ≤ (9223372036854775808 : Int))) then
              let x841 : Int := (IntKind.wrap .u64 (0 - r815.1))
              let x842 : Int := (IntKind.wrap .i64 x841)
              some (x842, true)
            else
              bif (!r782.2) then
                bif (decide (r815.1 < (9223372036854775808 : Int))) then
                  let x843 : Int := (IntKind.wrap .i64 r815.1)
                  some (x843, true)
                else
                  some ((0 : Int), false)
              else
                some ((0 : Int), false)
          else
            bif (!r782.2) then
              bif (decide (r815.1 < (9223372036854775808 : Int))) then
                let x844 : Int := (IntKind.wrap .i64 r815.1)
                some (x844, true)
              else
                some ((0 : Int), false)
            else
              some ((0 : Int), false)

noncomputable def k88_0 : List (Known Try.prog E) := [Known.of envOk [9] [(.agg [.keep, .keep])] v108_0 F108_0 w108_0 ok108_0, Known.of envOk [1, 1, 1] [.keep, .keep, .keep] v109_0 F109_0 w109_0 ok109_0]
noncomputable def L88_0 (n id : Nat) (st : St G) : Option (Int × Bool) := none
set_option maxRecDepth 100000 in
theorem e88_0 (n : Nat) (v : (Int × Int) × Int) : ev Try.prog E (oracle k88_0) Try.f88.ntmps (fun x => mem x []) (L88_0 n) (finA Try.prog E Try.f88.results.toList [] w88_0.alts) 4000 [.code (Try.f88.body.getD .skip)] (argSt (v88_0.enc v)) = F88_0 v := by kernel_rfl
theorem ok88_0 : FnOk Try.prog E 88 v88_0.enc F88_0 w88_0.enc :=
  fn_known (fn := Try.f88) (c := (Try.f88.body.getD .skip)) Try.func88 (by kernel_rfl) rfl envOk (oracle_ok k88_0) mixed v88_0 F88_0 w88_0 [] [] 4000 L88_0 (by kernel_rfl)
    (fun _ h => nomatch h) (fun v _ h => ⟨0, (e88_0 _ v).trans h⟩) (fun _ => by kernel_rfl) (fun _ => by kernel_rfl) (fun _ _ => by kernel_rfl)
/- (*chicane/fx.M).Div -/
abbrev A53_0 : Type := (Int × Int) × Bool
abbrev R53_0 : Type := Int × Bool
def v53_0 : Pk G ((Int × Int) × Bool) := (pk (Sh.snd (Sh.cons (Sh.ptr 0 0) (Sh.cons (Sh.int .i64) (Sh.fst (Sh.cons (Sh.int .i64) Sh.nil))))) (Sh.fst (Sh.hfix 0 52 (Sh.fst (Sh.cons Sh.bool Sh.nil)) Sh.hnil)))
def w53_0 : Wk G (Int × Bool) := (Wk.one [.keep] (pk (Sh.fst (Sh.cons (Sh.int .i64) Sh.nil)) (Sh.fst (Sh.hfix 0 52 (Sh.fst (Sh.cons Sh.bool Sh.nil)) Sh.hnil))))
def F53_0 (v : (Int × Int) × Bool) : Option (Int × Bool) :=
  bif (v.1.2 == (0 : Int)) then
    (F87_0 (v.1.1, v.2)).bind fun r853 =>
    some (r853)
  else
    let x854 : Int := (Int.fdiv v.1.1 (2 ^ 32))
    let x855 : Int := (IntKind.wrap .u64 v.1.1)
    let x856 : Int := (IntKind.wrap .u64 (x855 * 2 ^ 32))
    (F88_0 ((x854, x856), v.1.2)).bind fun r857 =>
    bif (!r857.2) then
      (F72_0 ((!((decide (v.1.1 < (0 : Int))) == (decide (v.1.2 < (0 : Int))))), v.2)).bind fun r858 =>
      some (r858)
    else
      some (r857.1, v.2)

noncomputable def k53_0 : List (Known Try.prog E) := [Known.of envOk [5, 1] [(.ptr 0 0 52 [.keep]), .keep] v87_0 F87_0 w87_0 ok87_0, Known.of envOk [9, 1] [(.agg [.keep, .keep]), .keep] v88_0 F88_0 w88_0 ok88_0, Known.of envOk [5, 2] [(.ptr 0 0 52 [.keep]), .keep] v72_0 F72_0 w72_0 ok72_0]
noncomputable def L53_0 (n id : Nat) (st : St G) : Option (Int × Bool) := none
set_option maxRecDepth 100000 in
theorem e53_0 (n : Nat) (v : (Int × Int) × Bool) : ev Try.prog E (oracle k53_0) Try.f53.ntmps (fun x => mem x []) (L53_0 n) (finA Try.prog E Try.f53.results.toList [(.ptr 0 0 52 [.keep])] w53_0.alts) 4000 [.code (Try.f53.body.getD .skip)] (argSt (v53_0.enc v)) = F53_0 v := by kernel_rfl
theorem ok53_0 : FnOk Try.prog E 53 v53_0.enc F53_0 w53_0.enc :=
  fn_known (fn := Try.f53) (c := (Try.f53.body.getD .skip)) Try.func53 (by kernel_rfl) rfl envOk (oracle_ok k53_0) mixed v53_0 F53_0 w53_0 [(.ptr 0 0 52 [.keep])] [] 4000 L53_0 (by kernel_rfl)
    (fun _ h => nomatch h) (fun v _ h => ⟨0, (e53_0 _ v).trans h⟩) (fun _ => by kernel_rfl) (fun _ => by kernel_rfl) (fun _ _ => by kernel_rfl)
/- chicane/telemetry.Stats -/
abbrev A25_0 : Type := ((List (Int × Int × Int × Int × Int × Int × Int × Int)) × Int) × Bool
abbrev R25_0 : Type := (Int × Int × Int) × Bool
def v25_0 : Pk G (((List (Int × Int × Int × Int × Int × Int × Int × Int)) × Int) × Bool) := (pk (Sh.snd (Sh.cons (Sh.ptr 0 0) (Sh.cons (Sh.ros 56) (Sh.fst (Sh.cons (Sh.int .i64) Sh.nil))))) (Sh.fst (Sh.hfix 0 52 (Sh.fst (Sh.cons Sh.bool Sh.nil)) Sh.hnil)))
def w25_0 : Wk G ((Int × Int × Int) × Bool) := (Wk.one [.keep, .keep, .keep] (pk (Sh.cons (Sh.int .i64) (Sh.cons (Sh.int .i64) (Sh.fst (Sh.cons (Sh.int .i64) Sh.nil)))) (Sh.fst (Sh.hfix 0 52 (Sh.fst (Sh.cons Sh.bool Sh.nil)) Sh.hnil))))
def c25_0_6 : Pk G (((List (Int × Int × Int × Int × Int × Int × Int × Int)) × Int × Int × Int × Int × (List (Int × Int × Int × Int × Int × Int × Int × Int)) × Int × Int) × Bool) := (pk (Sh.snd (Sh.cons (Sh.ptr 0 0) (Sh.cons (Sh.ros 56) (Sh.cons (Sh.int .i64) (Sh.cons (Sh.int .i64) (Sh.cons (Sh.int .i64) (Sh.cons (Sh.int .i64) (Sh.cons (Sh.ros 56) (Sh.cons (Sh.int .i64) (Sh.fst (Sh.cons (Sh.int .i64) Sh.nil))))))))))) (Sh.fst (Sh.hfix 0 52 (Sh.fst (Sh.cons Sh.bool Sh.nil)) Sh.hnil)))
def B25_0_6 (K : ((((List (Int × Int × Int × Int × Int × Int × Int × Int)) × Int × Int × Int × Int × (List (Int × Int × Int × Int × Int × Int × Int × Int)) × Int × Int) × Bool) → Option ((Int × Int × Int) × Bool))) (v : ((List (Int × Int × Int × Int × Int × Int × Int × Int)) × Int × Int × Int × Int × (List (Int × Int × Int × Int × Int × Int × Int × Int)) × Int × Int) × Bool) : Option ((Int × Int × Int) × Bool) :=
  bif (decide (v.1.2.2.2.2.2.2.2 < v.1.2.2.2.2.2.2.1)) then
    (rdx v.1.2.2.2.2.2.1 v.1.2.2.2.2.2.2.2).bind fun (x879 : Int × Int × Int × Int × Int × Int × Int × Int) =>
    (idx v.1.2.1 8).bind fun (x880 : Nat) =>
    let x881 : Int := (if (List.getD [x879.1, x879.2.1, x879.2.2.1, x879.2.2.2.1, x879.2.2.2.2.1, x879.2.2.2.2.2.1, x879.2.2.2.2.2.2.1, x879.2.2.2.2.2.2.2] x880 0) < v.1.2.2.1 then (List.getD [x879.1, x879.2.1, x879.2.2.1, x879.2.2.2.1, x879.2.2.2.2.1, x879.2.2.2.2.2.1, x879.2.2.2.2.2.2.1, x879.2.2.2.2.2.2.2] x880 0) else v.1.2.2.1)
    (idx v.1.2.1 8).bind fun (x882 : Nat) =>
    let x883 : Int := (if (List.getD [x879.1, x879.2.1, x879.2.2.1, x879.2.2.2.1, x879.2.2.2.2.1, x879.2.2.2.2.2.1, x879.2.2.2.2.2.2.1, x879.2.2.2.2.2.2.2] x882 0) > v.1.2.2.2.1 then (List.getD [x879.1, x879.2.1, x879.2.2.1, x879.2.2.2.1, x879.2.2.2.2.1, x879.2.2.2.2.2.1, x879.2.2.2.2.2.2.1, x879.2.2.2.2.2.2.2] x882 0) else v.1.2.2.2.1)
    (idx v.1.2.1 8).bind fun (x884 : Nat) =>
    (F52_0 ((v.1.2.2.2.2.1, (List.getD [x879.1, x879.2.1, x879.2.2.1, x879.2.2.2.1, x879.2.2.2.2.1, x879.2.2.2.2.2.1, x879.2.2.2.2.2.2.1, x879.2.2.2.2.2.2.2] x884 0)), v.2)).bind fun r885 =>
    let x886 : Int := (IntKind.wrap .i64 (v.1.2.2.2.2.2.2.2 + (1 : Int)))
    K ((v.1.1, (v.1.2.1, (x881, (x883, (r885.1, (v.1.2.2.2.2.2.1, (v.1.2.2.2.2.2.2.1, x886))))))), r885.2)
  else
    (F32_0 (((v.1.1).length : Int), v.2)).bind fun r887 =>
    (F53_0 ((v.1.2.2.2.2.1, r887.1), r887.2)).bind fun r888 =>
    some ((v.1.2.2.1, (v.1.2.2.2.1, r888.1)), r888.2)

def E25_0 (K : ((((List (Int × Int × Int × Int × Int × Int × Int × Int)) × Int × Int × Int × Int × (List (Int × Int × Int × Int × Int × Int × Int × Int)) × Int × Int) × Bool) → Option ((Int × Int × Int) × Bool))) (v : ((List (Int × Int × Int × Int × Int × Int × Int × Int)) × Int) × Bool) : Option ((Int × Int × Int) × Bool) :=
  bif (((v.1.1).length : Int) == (0 : Int)) then
    some (((0 : Int), ((0 : Int), (0 : Int))), v.2)
  else
    bif (decide (v.1.2 < (0 : Int))) then
      some (((0 : Int), ((0 : Int), (0 : Int))), v.2)
    else
      bif (decide (v.1.2 ≥ (8 : Int))) then
        some (((0 : Int), ((0 : Int), (0 : Int))), v.2)
      else
        (rdx v.1.1 (0 : Int)).bind fun (x875 : Int × Int × Int × Int × Int × Int × Int × Int) =>
        (idx v.1.2 8).bind fun (x876 : Nat) =>
        (rdx v.1.1 (0 : Int)).bind fun (x877 : Int × Int × Int × Int × Int × Int × Int × Int) =>
        (idx v.1.2 8).bind fun (x878 : Nat) =>
        K ((v.1.1, (v.1.2, ((List.getD [x875.1, x875.2.1, x875.2.2.1, x875.2.2.2.1, x875.2.2.2.2.1, x875.2.2.2.2.2.1, x875.2.2.2.2.2.2.1, x875.2.2.2.2.2.2.2] x876 0), ((List.getD [x877.1, x877.2.1, x877.2.2.1, x877.2.2.2.1, x877.2.2.2.2.1, x877.2.2.2.2.2.1, x877.2.2.2.2.2.2.1, x877.2.2.2.2.2.2.2] x878 0), ((0 : Int), (v.1.1, (((v.1.1).length : Int), (0 : Int)))))))), v.2)

def K25_0 : Nat → ((((List (Int × Int × Int × Int × Int × Int × Int × Int)) × Int × Int × Int × Int × (List (Int × Int × Int × Int × Int × Int × Int × Int)) × Int × Int) × Bool) → Option ((Int × Int × Int) × Bool))
  | 0 => (fun _ => none)
  | n + 1 => (B25_0_6 (K25_0 n))
def fuel25_0 (v : ((List (Int × Int × Int × Int × Int × Int × Int × Int)) × Int) × Bool) : Nat := 1000
def F25_0 (v : ((List (Int × Int × Int × Int × Int × Int × Int × Int)) × Int) × Bool) : Option ((Int × Int × Int) × Bool) := E25_0 (K25_0 (fuel25_0 v)) v
noncomputable def k25_0 : List (Known Try.prog E) := [Known.of envOk [5, 1, 1] [(.ptr 0 0 52 [.keep]), .keep, .keep] v52_0 F52_0 w52_0 ok52_0, Known.of envOk [5, 1] [(.ptr 0 0 52 [.keep]), .keep] v32_0 F32_0 w32_0 ok32_0, Known.of envOk [5, 1, 1] [(.ptr 0 0 52 [.keep]), .keep, .keep] v53_0 F53_0 w53_0 ok53_0]
def s25_0_6 : List (Nat × Pat) := [(0, (.ptr 0 0 52 [])), (1, (.ros 56)), (2, .keep), (6, .keep), (7, .keep), (9, .keep), (33, (.ros 56)), (34, .keep), (35, .keep)]
noncomputable def L25_0 (n id : Nat) (st : St G) : Option ((Int × Int × Int) × Bool) := match Nat.beq id 6 with | true => cutK Try.prog s25_0_6 [(.ptr 0 0 52 [.keep])] c25_0_6.dec (K25_0 n) st | false => none
set_option maxRecDepth 100000 in
theorem e25_0 (n : Nat) (v : ((List (Int × Int × Int × Int × Int × Int × Int × Int)) × Int) × Bool) : ev Try.prog E (oracle k25_0) Try.f25.ntmps (fun x => mem x [6]) (L25_0 n) (finA Try.prog E Try.f25.results.toList [(.ptr 0 0 52 [.keep])] w25_0.alts) 4000 [.code (Try.f25.body.getD .skip)] (argSt (v25_0.enc v)) = E25_0 (K25_0 n) v := by kernel_rfl
set_option maxRecDepth 100000 in
theorem b25_0_6 (n : Nat) (v : ((List (Int × Int × Int × Int × Int × Int × Int × Int)) × Int × Int × Int × Int × (List (Int × Int × Int × Int × Int × Int × Int × Int)) × Int × Int) × Bool) : evCut Try.prog E (oracle k25_0) Try.f25.ntmps (fun x => mem x [6]) (L25_0 n) (finA Try.prog E Try.f25.results.toList [(.ptr 0 0 52 [.keep])] w25_0.alts) 4000 (todoAt (Try.f25.body.getD .skip) 6) (cutSt s25_0_6 (c25_0_6.enc v)) = B25_0_6 (K25_0 n) v := by kernel_rfl
theorem ok25_0 : FnOk Try.prog E 25 v25_0.enc F25_0 w25_0.enc :=
  fn_known (fn := Try.f25) (c := (Try.f25.body.getD .skip)) Try.func25 (by kernel_rfl) rfl envOk (oracle_ok k25_0) mixed v25_0 F25_0 w25_0 [(.ptr 0 0 52 [.keep])] [6] 4000 L25_0 (by kernel_rfl)
    (List.forall_mem_cons.2 ⟨⟨_, s25_0_6, c25_0_6.dec, c25_0_6.enc, fun n => (K25_0 n), c25_0_6.ok, fun _ _ => rfl, fun _ => rfl, fun n v _ h => (b25_0_6 n v).trans h⟩, fun _ h => (nomatch h)⟩) (fun v _ h => ⟨fuel25_0 v, (e25_0 _ v).trans h⟩) (fun _ => by kernel_rfl) (fun _ => by kernel_rfl) (fun _ _ => by kernel_rfl)
/- chicane/chicanelaw41.plain -/
abbrev A20_0 : Type := List (Int × Int × Int × Int × Int × Int × Int × Int)
abbrev R20_0 : Type := List (Int × Int × Int × Int × Int × Int × Int × Int)
def v20_0 : Pk G (List (Int × Int × Int × Int × Int × Int × Int × Int)) := (Pk.fst (pk (Sh.fst (Sh.cons (Sh.ros 56) Sh.nil)) Sh.hnil))
def w20_0 : Wk G (List (Int × Int × Int × Int × Int × Int × Int × Int)) := (Wk.one [(.own 0 55)] (Pk.snd (pk (Sh.snd (Sh.cons (Sh.osl 0) Sh.nil)) (Sh.fst (Sh.hrow 0 55 Sh.hnil)))))
def c20_0_3 : Pk G (((List (Int × Int × Int × Int × Int × Int × Int × Int)) × Int) × List (Int × Int × Int × Int × Int × Int × Int × Int)) := (pk (Sh.cons (Sh.ros 56) (Sh.snd (Sh.cons (Sh.osl 0) (Sh.fst (Sh.cons (Sh.int .i64) Sh.nil))))) (Sh.fst (Sh.hrow 0 55 Sh.hnil)))
def B20_0_3 (K : ((((List (Int × Int × Int × Int × Int × Int × Int × Int)) × Int) × List (Int × Int × Int × Int × Int × Int × Int × Int)) → Option (List (Int × Int × Int × Int × Int × Int × Int × Int)))) (v : ((List (Int × Int × Int × Int × Int × Int × Int × Int)) × Int) × List (Int × Int × Int × Int × Int × Int × Int × Int)) : Option (List (Int × Int × Int × Int × Int × Int × Int × Int)) :=
  bif (decide (v.1.2 < ((v.1.1).length : Int))) then
    (rdx v.1.1 v.1.2).bind fun (x898 : Int × Int × Int × Int × Int × Int × Int × Int) =>
    (chk (decide (((v.2).length + (([x898] : List (Int × Int × Int × Int × Int × Int × Int × Int))).length) * 64 ≤ 140737488355328))).bind fun _ =>
    let x899 : List (Int × Int × Int × Int × Int × Int × Int × Int) := (v.2 ++ ([x898] : List (Int × Int × Int × Int × Int × Int × Int × Int)))
    let x900 : Int := (IntKind.wrap .i64 (v.1.2 + (1 : Int)))
    K ((v.1.1, x900), x899)
  else
    some (v.2)

def E20_0 (K : ((((List (Int × Int × Int × Int × Int × Int × Int × Int)) × Int) × List (Int × Int × Int × Int × Int × Int × Int × Int)) → Option (List (Int × Int × Int × Int × Int × Int × Int × Int)))) (v : List (Int × Int × Int × Int × Int × Int × Int × Int)) : Option (List (Int × Int × Int × Int × Int × Int × Int × Int)) :=
  K ((v, (0 : Int)), ([] : List (Int × Int × Int × Int × Int × Int × Int × Int)))

def K20_0 : Nat → ((((List (Int × Int × Int × Int × Int × Int × Int × Int)) × Int) × List (Int × Int × Int × Int × Int × Int × Int × Int)) → Option (List (Int × Int × Int × Int × Int × Int × Int × Int)))
  | 0 => (fun _ => none)
  | n + 1 => (B20_0_3 (K20_0 n))
def fuel20_0 (v : List (Int × Int × Int × Int × Int × Int × Int × Int)) : Nat := 1000
def F20_0 (v : List (Int × Int × Int × Int × Int × Int × Int × Int)) : Option (List (Int × Int × Int × Int × Int × Int × Int × Int)) := E20_0 (K20_0 (fuel20_0 v)) v
noncomputable def k20_0 : List (Known Try.prog E) := []
def s20_0_3 : List (Nat × Pat) := [(0, (.ros 56)), (3, (.own 0 55)), (4, .keep)]
noncomputable def L20_0 (n id : Nat) (st : St G) : Option (List (Int × Int × Int × Int × Int × Int × Int × Int)) := match Nat.beq id 3 with | true => cutK Try.prog s20_0_3 [] c20_0_3.dec (K20_0 n) st | false => none
set_option maxRecDepth 100000 in
theorem e20_0 (n : Nat) (v : List (Int × Int × Int × Int × Int × Int × Int × Int)) : ev Try.prog E (oracle k20_0) Try.f20.ntmps (fun x => mem x [3]) (L20_0 n) (finA Try.prog E Try.f20.results.toList [] w20_0.alts) 4000 [.code (Try.f20.body.getD .skip)] (argSt (v20_0.enc v)) = E20_0 (K20_0 n) v := by kernel_rfl
set_option maxRecDepth 100000 in
theorem b20_0_3 (n : Nat) (v : ((List (Int × Int × Int × Int × Int × Int × Int × Int)) × Int) × List (Int × Int × Int × Int × Int × Int × Int × Int)) : evCut Try.prog E (oracle k20_0) Try.f20.ntmps (fun x => mem x [3]) (L20_0 n) (finA Try.prog E Try.f20.results.toList [] w20_0.alts) 4000 (todoAt (Try.f20.body.getD .skip) 3) (cutSt s20_0_3 (c20_0_3.enc v)) = B20_0_3 (K20_0 n) v := by kernel_rfl
theorem ok20_0 : FnOk Try.prog E 20 v20_0.enc F20_0 w20_0.enc :=
  fn_known (fn := Try.f20) (c := (Try.f20.body.getD .skip)) Try.func20 (by kernel_rfl) rfl envOk (oracle_ok k20_0) mixed v20_0 F20_0 w20_0 [] [3] 4000 L20_0 (by kernel_rfl)
    (List.forall_mem_cons.2 ⟨⟨_, s20_0_3, c20_0_3.dec, c20_0_3.enc, fun n => (K20_0 n), c20_0_3.ok, fun _ _ => rfl, fun _ => rfl, fun n v _ h => (b20_0_3 n v).trans h⟩, fun _ h => (nomatch h)⟩) (fun v _ h => ⟨fuel20_0 v, (e20_0 _ v).trans h⟩) (fun _ => by kernel_rfl) (fun _ => by kernel_rfl) (fun _ _ => by kernel_rfl)
/- (*chicane/chicaneref02.M).bound -/
abbrev A74_0 : Type := Bool × Bool
abbrev R74_0 : Type := Int × Bool
def v74_0 : Pk G (Bool × Bool) := (pk (Sh.snd (Sh.cons (Sh.ptr 0 0) (Sh.fst (Sh.cons Sh.bool Sh.nil)))) (Sh.fst (Sh.hfix 0 54 (Sh.fst (Sh.cons Sh.bool Sh.nil)) Sh.hnil)))
def w74_0 : Wk G (Int × Bool) := (Wk.one [.keep] (pk (Sh.fst (Sh.cons (Sh.int .i64) Sh.nil)) (Sh.fst (Sh.hfix 0 54 (Sh.fst (Sh.cons Sh.bool Sh.nil)) Sh.hnil))))
def F74_0 (v : Bool × Bool) : Option (Int × Bool) :=
  bif v.1 then
    some ((-9223372036854775808 : Int), true)
  else
    some ((9223372036854775807 : Int), true)

noncomputable def k74_0 : List (Known Try.prog E) := []
noncomputable def L74_0 (n id : Nat) (st : St G) : Option (Int × Bool) := none
set_option maxRecDepth 100000 in
theorem e74_0 (n : Nat) (v : Bool × Bool) : ev Try.prog E (oracle k74_0) Try.f74.ntmps (fun x => mem x []) (L74_0 n) (finA Try.prog E Try.f74.results.toList [(.ptr 0 0 54 [.keep])] w74_0.alts) 4000 [.code (Try.f74.body.getD .skip)] (argSt (v74_0.enc v)) = F74_0 v := by kernel_rfl
theorem ok74_0 : FnOk Try.prog E 74 v74_0.enc F74_0 w74_0.enc :=
  fn_known (fn := Try.f74) (c := (Try.f74.body.getD .skip)) Try.func74 (by kernel_rfl) rfl envOk (oracle_ok k74_0) mixed v74_0 F74_0 w74_0 [(.ptr 0 0 54 [.keep])] [] 4000 L74_0 (by kernel_rfl)
    (fun _ h => nomatch h) (fun v _ h => ⟨0, (e74_0 _ v).trans h⟩) (fun _ => by kernel_rfl) (fun _ => by kernel_rfl) (fun _ _ => by kernel_rfl)
/- (*chicane/chicaneref02.M).Add -/
abbrev A54_0 : Type := (Int × Int) × Bool
abbrev R54_0 : Type := Int × Bool
def v54_0 : Pk G ((Int × Int) × Bool) := (pk (Sh.snd (Sh.cons (Sh.ptr 0 0) (Sh.cons (Sh.int .i64) (Sh.fst (Sh.cons (Sh.int .i64) Sh.nil))))) (Sh.fst (Sh.hfix 0 54 (Sh.fst (Sh.cons Sh.bool Sh.nil)) Sh.hnil)))
def w54_0 : Wk G (Int × Bool) := (Wk.one [.keep] (pk (Sh.fst (Sh.cons (Sh.int .i64) Sh.nil)) (Sh.fst (Sh.hfix 0 54 (Sh.fst (Sh.cons Sh.bool Sh.nil)) Sh.hnil))))
def F54_0 (v : (Int × Int) × Bool) : Option (Int × Bool) :=
  bif (decide (v.1.2 > (0 : Int))) then
    let x933 : Int := (IntKind.wrap .i64 ((9223372036854775807 : Int) - v.1.2))
    bif (decide (v.1.1 > x933)) then
      (F74_0 (false, v.2)).bind fun r934 =>
      some (r934)
    else
      bif (decide (v.1.2 < (0 : Int))) then
        let x935 : Int := (IntKind.wrap .i64 ((-9223372036854775808 : Int) - v.1.2))
        bif (decide (v.1.1 < x935)) then
          (F74_0 (true, v.2)).bind fun r936 =>
          some (r936)
        else
          let x937 : Int := (IntKind.wrap .i64 (v.1.1 + v.1.2))
          some (x937, v.2)
      else
        let x938 : Int := (IntKind.wrap .i64 (v.1.1 + v.1.2))
        some (x938, v.2)
  else
    bif (decide (v.1.2 < (0 : Int))) then
      let x939 : Int := (IntKind.wrap .i64 ((-9223372036854775808 : Int) - v.1.2))
      bif (decide (v.1.1 < x939)) then
        (F74_0 (true, v.2)).bind fun r940 =>
        some (r940)
      else
        let x941 : Int := (IntKind.wrap .i64 (v.1.1 + v.1.2))
        some (x941, v.2)
    else
      let x942 : Int := (IntKind.wrap .i64 (v.1.1 + v.1.2))
      some (x942, v.2)

noncomputable def k54_0 : List (Known Try.prog E) := [Known.of envOk [5, 2] [(.ptr 0 0 54 [.keep]), .keep] v74_0 F74_0 w74_0 ok74_0]
noncomputable def L54_0 (n id : Nat) (st : St G) : Option (Int × Bool) := none
set_option maxRecDepth 100000 in
theorem e54_0 (n : Nat) (v : (Int × Int) × Bool) : ev Try.prog E (oracle k54_0) Try.f54.ntmps (fun x => mem x []) (L54_0 n) (finA Try.prog E Try.f54.results.toList [(.ptr 0 0 54 [.keep])] w54_0.alts) 4000 [.code (Try.f54.body.getD .skip)] (argSt (v54_0.enc v)) = F54_0 v := by kernel_rfl
theorem ok54_0 : FnOk Try.prog E 54 v54_0.enc F54_0 w54_0.enc :=
  fn_known (fn := Try.f54) (c := (Try.f54.body.getD .skip)) Try.func54 (by kernel_rfl) rfl envOk (oracle_ok k54_0) mixed v54_0 F54_0 w54_0 [(.ptr 0 0 54 [.keep])] [] 4000 L54_0 (by kernel_rfl)
    (fun _ h => nomatch h) (fun v _ h => ⟨0, (e54_0 _ v).trans h⟩) (fun _ => by kernel_rfl) (fun _ => by kernel_rfl) (fun _ _ => by kernel_rfl)
/- (*chicane/chicaneref02.M).Of -/
abbrev A34_0 : Type := Int × Bool
abbrev R34_0 : Type := Int × Bool
def v34_0 : Pk G (Int × Bool) := (pk (Sh.snd (Sh.cons (Sh.ptr 0 0) (Sh.fst (Sh.cons (Sh.int .i64) Sh.nil)))) (Sh.fst (Sh.hfix 0 54 (Sh.fst (Sh.cons Sh.bool Sh.nil)) Sh.hnil)))
def w34_0 : Wk G (Int × Bool) := (Wk.one [.keep] (pk (Sh.fst (Sh.cons (Sh.int .i64) Sh.nil)) (Sh.fst (Sh.hfix 0 54 (Sh.fst (Sh.cons Sh.bool Sh.nil)) Sh.hnil))))
def F34_0 (v : Int × Bool) : Option (Int × Bool) :=
  bif (decide (v.1 > (2147483647 : Int))) then
    (F74_0 (false, v.2)).bind fun r951 =>
    some (r951)
  else
    bif (decide (v.1 < (-2147483648 : Int))) then
      (F74_0 (true, v.2)).bind fun r952 =>
      some (r952)
    else
      let x953 : Int := (IntKind.wrap .i64 (v.1 * (4294967296 : Int)))
      some (x953, v.2)

noncomputable def k34_0 : List (Known Try.prog E) := [Known.of envOk [5, 2] [(.ptr 0 0 54 [.keep]), .keep] v74_0 F74_0 w74_0 ok74_0]
noncomputable def L34_0 (n id : Nat) (st : St G) : Option (Int × Bool) := none
set_option maxRecDepth 100000 in
theorem e34_0 (n : Nat) (v : Int × Bool) : ev Try.prog E (oracle k34_0) Try.f34.ntmps (fun x => mem x []) (L34_0 n) (finA Try.prog E Try.f34.results.toList [(.ptr 0 0 54 [.keep])] w34_0.alts) 4000 [.code (Try.f34.body.getD .skip)] (argSt (v34_0.enc v)) = F34_0 v := by kernel_rfl
theorem ok34_0 : FnOk Try.prog E 34 v34_0.enc F34_0 w34_0.enc :=
  fn_known (fn := Try.f34) (c := (Try.f34.body.getD .skip)) Try.func34 (by kernel_rfl) rfl envOk (oracle_ok k34_0) mixed v34_0 F34_0 w34_0 [(.ptr 0 0 54 [.keep])] [] 4000 L34_0 (by kernel_rfl)
    (fun _ h => nomatch h) (fun v _ h => ⟨0, (e34_0 _ v).trans h⟩) (fun _ => by kernel_rfl) (fun _ => by kernel_rfl) (fun _ _ => by kernel_rfl)
/- chicane/chicaneref01.Size -/
abbrev A90_0 : Type := Int
abbrev R90_0 : Type := Int
def v90_0 : Pk G Int := (Pk.fst (pk (Sh.fst (Sh.cons (Sh.int .i64) Sh.nil)) Sh.hnil))
def w90_0 : Wk G Int := (Wk.one [.keep] (Pk.fst (pk (Sh.fst (Sh.cons (Sh.int .u64) Sh.nil)) Sh.hnil)))
def F90_0 (v : Int) : Option Int :=
  bif (decide (v < (0 : Int))) then
    let x966 : Int := (IntKind.wrap .i64 (v + (1 : Int)))
    let x967 : Int := (IntKind.wrap .i64 (0 - x966))
    let x968 : Int := (IntKind.wrap .u64 x967)
    let x969 : Int := (IntKind.wrap .u64 (x968 + (1 : Int)))
    some (x969)
  else
    let x970 : Int := (IntKind.wrap .u64 v)
    some (x970)

noncomputable def k90_0 : List (Known Try.prog E) := []
noncomputable def L90_0 (n id : Nat) (st : St G) : Option Int := none
set_option maxRecDepth 100000 in
theorem e90_0 (n : Nat) (v : Int) : ev Try.prog E (oracle k90_0) Try.f90.ntmps (fun x => mem x []) (L90_0 n) (finA Try.prog E Try.f90.results.toList [] w90_0.alts) 4000 [.code (Try.f90.body.getD .skip)] (argSt (v90_0.enc v)) = F90_0 v := by kernel_rfl
theorem ok90_0 : FnOk Try.prog E 90 v90_0.enc F90_0 w90_0.enc :=
  fn_known (fn := Try.f90) (c := (Try.f90.body.getD .skip)) Try.func90 (by kernel_rfl) rfl envOk (oracle_ok k90_0) mixed v90_0 F90_0 w90_0 [] [] 4000 L90_0 (by kernel_rfl)
    (fun _ h => nomatch h) (fun v _ h => ⟨0, (e90_0 _ v).trans h⟩) (fun _ => by kernel_rfl) (fun _ => by kernel_rfl) (fun _ _ => by kernel_rfl)
/- chicane/chicaneref02.over -/
abbrev A89_0 : Type := Int × Int
abbrev R89_0 : Type := Int × Bool
def v89_0 : Pk G (Int × Int) := (Pk.fst (pk (Sh.cons (Sh.int .u64) (Sh.fst (Sh.cons (Sh.int .u64) Sh.nil))) Sh.hnil))
def w89_0 : Wk G (Int × Bool) := (Wk.one [.keep, .keep] (Pk.fst (pk (Sh.cons (Sh.int .u64) (Sh.fst (Sh.cons Sh.bool Sh.nil))) Sh.hnil)))
def c89_0_4 : Pk G (Int × Int × Int × Int × Int) := (Pk.fst (pk (Sh.cons (Sh.int .u64) (Sh.cons (Sh.int .u64) (Sh.cons (Sh.int .u64) (Sh.cons (Sh.int .u64) (Sh.fst (Sh.cons (Sh.int .i64) Sh.nil)))))) Sh.hnil))
def B89_0_4 (K : ((Int × Int × Int × Int × Int) → Option (Int × Bool))) (v : Int × Int × Int × Int × Int) : Option (Int × Bool) :=
  bif (decide (v.2.2.2.2 ≥ (0 : Int))) then
    bif (decide (v.2.2.2.2 ≥ (32 : Int))) then
      let x1021 : Int := (IntKind.wrap .i64 (v.2.2.2.2 - (32 : Int)))
      let x1022 : Int := (IntKind.wrap .u64 x1021)
      (chk (decide (0 ≤ x1022))).bind fun _ =>
      let x1023 : Int := (Int.fdiv v.1 (2 ^ min (x1022).toNat 64))
      let x1024 : Int := (Int.tmod x1023 (2 : Int))
      let x1025 : Int := (IntKind.wrap .u64 ((2 : Int) * v.2.2.2.1))
      let x1026 : Int := (IntKind.wrap .u64 (x1025 + x1024))
      bif (decide (v.2.2.1 ≥ (9223372036854775808 : Int))) then
        some ((0 : Int), false)
      else
        let x1027 : Int := (IntKind.wrap .u64 ((2 : Int) * v.2.2.1))
        bif (decide (x1026 ≥ v.2.1)) then
          let x1028 : Int := (IntKind.wrap .u64 (x1026 - v.2.1))
          let x1029 : Int := (IntKind.wrap .u64 (x1027 + (1 : Int)))
          let x1030 : Int := (IntKind.wrap .i64 (v.2.2.2.2 - (1 : Int)))
          K (v.1, (v.2.1, (x1029, (x1028, x1030))))
        else
          let x1031 : Int := (IntKind.wrap .i64 (v.2.2.2.2 - (1 : Int)))
          K (v.1, (v.2.1, (x1027, (x1026, x1031))))
    else
      let x1032 : Int := (IntKind.wrap .u64 ((2 : Int) * v.2.2.2.1))
      let x1033 : Int := (IntKind.wrap .u64 (x1032 + (0 : Int)))
      bif (decide (v.2.2.1 ≥ (9223372036854775808 : Int))) then
        some ((0 : Int), false)
      else
        let x1034 : Int := (IntKind.wrap .u64 ((2 : Int) * v.2.2.1))
        bif (decide (x1033 ≥ v.2.1)) then
          let x1035 : Int := (IntKind.wrap .u64 (x1033 - v.2.1))
          let x1036 : Int := (IntKind.wrap .u64 (x1034 + (1 : Int)))
          let x1037 : Int := (IntKind.wrap .i64 (v.2.2.2.2 - (1 : Int)))
          K (v.1, (v.2.1, (x1036, (x1035, x1037))))
        else
          let x1038 : Int := (IntKind.wrap .i64 (v.2.2.2.2 - (1 : Int)))
          K (v.1, (v.2.1, (x1034, (x1033, x1038))))
  else
    let x1039 : Int := (IntKind.wrap .u64 (v.2.1 - v.2.2.2.1))
    bif (decide (v.2.2.2.1 > x1039)) then
      let x1040 : Int := (IntKind.wrap .u64 (v.2.2.1 + (1 : Int)))
      bif (x1040 == (0 : Int)) then
        some ((0 : Int), false)
      else
        some (x1040, true)
    else
      let x1041 : Int := (IntKind.wrap .u64 (v.2.1 - v.2.2.2.1))
      bif (v.2.2.2.1 == x1041) then
        let x1042 : Int := (Int.tmod v.2.2.1 (2 : Int))
        bif (x1042 == (1 : Int)) then
          let x1043 : Int := (IntKind.wrap .u64 (v.2.2.1 + (1 : Int)))
          bif (x1043 == (0 : Int)) then
            some ((0 : Int), false)
          else
            some (x1043, true)
        else
          some (v.2.2.1, true)
      else
        some (v.2.2.1, true)

def E89_0 (K : ((Int × Int × Int × Int × Int) → Option (Int × Bool))) (v : Int × Int) : Option (Int × Bool) :=
  K (v.1, (v.2, ((0 : Int), ((0 : Int), (95 : Int)))))

def K89_0 : Nat → ((Int × Int × Int × Int × Int) → Option (Int × Bool))
  | 0 => (fun _ => none)
  | n + 1 => (B89_0_4 (K89_0 n))
def fuel89_0 (v : Int × Int) : Nat := 1000
def F89_0 (v : Int × Int) : Option (Int × Bool) := E89_0 (K89_0 (fuel89_0 v)) v
noncomputable def k89_0 : List (Known Try.prog E) := []
def s89_0_4 : List (Nat × Pat) := [(0, .keep), (1, .keep), (6, .keep), (7, .keep), (8, .keep)]
noncomputable def L89_0 (n id : Nat) (st : St G) : Option (Int × Bool) := match Nat.beq id 4 with | true => cutK Try.prog s89_0_4 [] c89_0_4.dec (K89_0 n) st | false => none
set_option maxRecDepth 100000 in
theorem e89_0 (n : Nat) (v : Int × Int) : ev Try.prog E (oracle k89_0) Try.f89.ntmps (fun x => mem x [4]) (L89_0 n) (finA Try.prog E Try.f89.results.toList [] w89_0.alts) 4000 [.code (Try.f89.body.getD .skip)] (argSt (v89_0.enc v)) = E89_0 (K89_0 n) v := by kernel_rfl
set_option maxRecDepth 100000 in
theorem b89_0_4 (n : Nat) (v : Int × Int × Int × Int × Int) : evCut Try.prog E (oracle k89_0) Try.f89.ntmps (fun x => mem x [4]) (L89_0 n) (finA Try.prog E Try.f89.results.toList [] w89_0.alts) 4000 (todoAt (Try.f89.body.getD .skip) 4) (cutSt s89_0_4 (c89_0_4.enc v)) = B89_0_4 (K89_0 n) v := by kernel_rfl
theorem ok89_0 : FnOk Try.prog E 89 v89_0.enc F89_0 w89_0.enc :=
  fn_known (fn := Try.f89) (c := (Try.f89.body.getD .skip)) Try.func89 (by kernel_rfl) rfl envOk (oracle_ok k89_0) mixed v89_0 F89_0 w89_0 [] [4] 4000 L89_0 (by kernel_rfl)
    (List.forall_mem_cons.2 ⟨⟨_, s89_0_4, c89_0_4.dec, c89_0_4.enc, fun n => (K89_0 n), c89_0_4.ok, fun _ _ => rfl, fun _ => rfl, fun n v _ h => (b89_0_4 n v).trans h⟩, fun _ h => (nomatch h)⟩) (fun v _ h => ⟨fuel89_0 v, (e89_0 _ v).trans h⟩) (fun _ => by kernel_rfl) (fun _ => by kernel_rfl) (fun _ _ => by kernel_rfl)
/- (*chicane/chicaneref02.M).signed -/
abbrev A91_0 : Type := (Bool × Int) × Bool
abbrev R91_0 : Type := Int × Bool
def v91_0 : Pk G ((Bool × Int) × Bool) := (pk (Sh.snd (Sh.cons (Sh.ptr 0 0) (Sh.cons Sh.bool (Sh.fst (Sh.cons (Sh.int .u64) Sh.nil))))) (Sh.fst (Sh.hfix 0 54 (Sh.fst (Sh.cons Sh.bool Sh.nil)) Sh.hnil)))
def w91_0 : Wk G (Int × Bool) := (Wk.one [.keep] (pk (Sh.fst (Sh.cons (Sh.int .i64) Sh.nil)) (Sh.fst (Sh.hfix 0 54 (Sh.fst (Sh.cons Sh.bool Sh.nil)) Sh.hnil))))
def F91_0 (v : (Bool × Int) × Bool) : Option (Int × Bool) :=
  bif v.1.1 then
    bif (v.1.2 == (9223372036854775808 : Int)) then
      some ((-9223372036854775808 : Int), v.2)
    else
      bif (decide (v.1.2 > (9223372036854775807 : Int))) then
        (F74_0 (v.1.1, v.2)).bind fun r1062 =>
        some (r1062)
      else
        bif v.1.1 then
          let x1063 : Int := (IntKind.wrap .i64 v.1.2)
          let x1064 : Int := (IntKind.wrap .i64 (0 - x1063))
          some (x1064, v.2)
        else
          let x1065 : Int := (IntKind.wrap .i64 v.1.2)
          some (x1065, v.2)
  else
    bif (decide (v.1.2 > (9223372036854775807 : Int))) then
      (F74_0 (v.1.1, v.2)).bind fun r1066 =>
      some (r1066)
    else
      bif v.1.1 then
        let x1067 : Int := (IntKind.wrap .i64 v.1.2)
        let x1068 : Int := (IntKind.wrap .i64 (0 - x1067))
        some (x1068, v.2)
      else
        let x1069 : Int := (IntKind.wrap .i64 v.1.2)
        some (x1069, v.2)

noncomputable def k91_0 : List (Known Try.prog E) := [Known.of envOk [5, 2] [(.ptr 0 0 54 [.keep]), .keep] v74_0 F74_0 w74_0 ok74_0]
noncomputable def L91_0 (n id : Nat) (st : St G) : Option (Int × Bool) := none
set_option maxRecDepth 100000 in
theorem e91_0 (n : Nat) (v : (Bool × Int) × Bool) : ev Try.prog E (oracle k91_0) Try.f91.ntmps (fun x => mem x []) (L91_0 n) (finA Try.prog E Try.f91.results.toList [(.ptr 0 0 54 [.keep])] w91_0.alts) 4000 [.code (Try.f91.body.getD .skip)] (argSt (v91_0.enc v)) = F91_0 v := by kernel_rfl
theorem ok91_0 : FnOk Try.prog E 91 v91_0.enc F91_0 w91_0.enc :=
  fn_known (fn := Try.f91) (c := (Try.f91.body.getD .skip)) Try.func91 (by kernel_rfl) rfl envOk (oracle_ok k91_0) mixed v91_0 F91_0 w91_0 [(.ptr 0 0 54 [.keep])] [] 4000 L91_0 (by kernel_rfl)
    (fun _ h => nomatch h) (fun v _ h => ⟨0, (e91_0 _ v).trans h⟩) (fun _ => by kernel_rfl) (fun _ => by kernel_rfl) (fun _ _ => by kernel_rfl)
/- (*chicane/chicaneref02.M).Div -/
abbrev A55_0 : Type := (Int × Int) × Bool
abbrev R55_0 : Type := Int × Bool
def v55_0 : Pk G ((Int × Int) × Bool) := (pk (Sh.snd (Sh.cons (Sh.ptr 0 0) (Sh.cons (Sh.int .i64) (Sh.fst (Sh.cons (Sh.int .i64) Sh.nil))))) (Sh.fst (Sh.hfix 0 54 (Sh.fst (Sh.cons Sh.bool Sh.nil)) Sh.hnil)))
def w55_0 : Wk G (Int × Bool) := (Wk.one [.keep] (pk (Sh.fst (Sh.cons (Sh.int .i64) Sh.nil)) (Sh.fst (Sh.hfix 0 54 (Sh.fst (Sh.cons Sh.bool Sh.nil)) Sh.hnil))))
def F55_0 (v : (Int × Int) × Bool) : Option (Int × Bool) :=
  bif (v.1.2 == (0 : Int)) then
    bif (v.1.1 == (0 : Int)) then
      some ((0 : Int), true)
    else
      (F74_0 ((decide (v.1.1 < (0 : Int))), true)).bind fun r1077 =>
      some (r1077)
  else
    (F90_0 v.1.1).bind fun r1078 =>
    (F90_0 v.1.2).bind fun r1079 =>
    (F89_0 (r1078, r1079)).bind fun r1080 =>
    bif (!r1080.2) then
      (F74_0 ((!((decide (v.1.1 < (0 : Int))) == (decide (v.1.2 < (0 : Int))))), v.2)).bind fun r1081 =>
      some (r1081)
    else
      (F91_0 (((!((decide (v.1.1 < (0 : Int))) == (decide (v.1.2 < (0 : Int))))), r1080.1), v.2)).bind fun r1082 =>
      some (r1082)

noncomputable def k55_0 : List (Known Try.prog E) := [Known.of envOk [5, 2] [(.ptr 0 0 54 [.keep]), .keep] v74_0 F74_0 w74_0 ok74_0, Known.of envOk [1] [.keep] v90_0 F90_0 w90_0 ok90_0, Known.of envOk [1, 1] [.keep, .keep] v89_0 F89_0 w89_0 ok89_0, Known.of envOk [5, 2, 1] [(.ptr 0 0 54 [.keep]), .keep, .keep] v91_0 F91_0 w91_0 ok91_0]
noncomputable def L55_0 (n id : Nat) (st : St G) : Option (Int × Bool) := none
set_option maxRecDepth 100000 in
theorem e55_0 (n : Nat) (v : (Int × Int) × Bool) : ev Try.prog E (oracle k55_0) Try.f55.ntmps (fun x => mem x []) (L55_0 n) (finA Try.prog E Try.f55.results.toList [(.ptr 0 0 54 [.keep])] w55_0.alts) 4000 [.code (Try.f55.body.getD .skip)] (argSt (v55_0.enc v)) = F55_0 v := by kernel_rfl
theorem ok55_0 : FnOk Try.prog E 55 v55_0.enc F55_0 w55_0.enc :=
  fn_known (fn := Try.f55) (c := (Try.f55.body.getD .skip)) Try.func55 (by kernel_rfl) rfl envOk (oracle_ok k55_0) mixed v55_0 F55_0 w55_0 [(.ptr 0 0 54 [.keep])] [] 4000 L55_0 (by kernel_rfl)
    (fun _ h => nomatch h) (fun v _ h => ⟨0, (e55_0 _ v).trans h⟩) (fun _ => by kernel_rfl) (fun _ => by kernel_rfl) (fun _ _ => by kernel_rfl)
/- chicane/chicaneref41.Stats -/
abbrev A26_0 : Type := ((List (Int × Int × Int × Int × Int × Int × Int × Int)) × Int) × Bool
abbrev R26_0 : Type := (Int × Int × Int) × Bool
def v26_0 : Pk G (((List (Int × Int × Int × Int × Int × Int × Int × Int)) × Int) × Bool) := (pk (Sh.snd (Sh.cons (Sh.ptr 0 0) (Sh.cons (Sh.ros 55) (Sh.fst (Sh.cons (Sh.int .i64) Sh.nil))))) (Sh.fst (Sh.hfix 0 54 (Sh.fst (Sh.cons Sh.bool Sh.nil)) Sh.hnil)))
def w26_0 : Wk G ((Int × Int × Int) × Bool) := (Wk.one [(.agg [.keep, .keep, .keep])] (pk (Sh.fst (Sh.cons (Sh.agg (Sh.cons (Sh.int .i64) (Sh.cons (Sh.int .i64) (Sh.fst (Sh.cons (Sh.int .i64) Sh.nil))))) Sh.nil)) (Sh.fst (Sh.hfix 0 54 (Sh.fst (Sh.cons Sh.bool Sh.nil)) Sh.hnil))))
def c26_0_7 : Pk G (((List (Int × Int × Int × Int × Int × Int × Int × Int)) × Int × Int × Int × Int × Int) × (Int × Int × Int) × Bool) := (pk (Sh.snd (Sh.cons (Sh.ptr 0 0) (Sh.cons (Sh.ros 55) (Sh.cons (Sh.int .i64) (Sh.snd (Sh.cons (Sh.ptr 1 0) (Sh.cons (Sh.int .i64) (Sh.cons (Sh.int .i64) (Sh.cons (Sh.int .i64) (Sh.fst (Sh.cons (Sh.int .i64) Sh.nil))))))))))) (Sh.hfix 1 79 (Sh.cons (Sh.int .i64) (Sh.cons (Sh.int .i64) (Sh.fst (Sh.cons (Sh.int .i64) Sh.nil)))) (Sh.fst (Sh.hfix 0 54 (Sh.fst (Sh.cons Sh.bool Sh.nil)) Sh.hnil))))
def B26_0_7 (K : ((((List (Int × Int × Int × Int × Int × Int × Int × Int)) × Int × Int × Int × Int × Int) × (Int × Int × Int) × Bool) → Option ((Int × Int × Int) × Bool))) (v : ((List (Int × Int × Int × Int × Int × Int × Int × Int)) × Int × Int × Int × Int × Int) × (Int × Int × Int) × Bool) : Option ((Int × Int × Int) × Bool) :=
  bif (decide (v.1.2.2.2.2.2 < ((v.1.1).length : Int))) then
    (rdx v.1.1 v.1.2.2.2.2.2).bind fun (x1101 : Int × Int × Int × Int × Int × Int × Int × Int) =>
    (idx v.1.2.1 8).bind fun (x1102 : Nat) =>
    let x1103 : Int := (if (List.getD [x1101.1, x1101.2.1, x1101.2.2.1, x1101.2.2.2.1, x1101.2.2.2.2.1, x1101.2.2.2.2.2.1, x1101.2.2.2.2.2.2.1, x1101.2.2.2.2.2.2.2] x1102 0) < v.1.2.2.1 then (List.getD [x1101.1, x1101.2.1, x1101.2.2.1, x1101.2.2.2.1, x1101.2.2.2.2.1, x1101.2.2.2.2.2.1, x1101.2.2.2.2.2.2.1, x1101.2.2.2.2.2.2.2] x1102 0) else v.1.2.2.1)
    (rdx v.1.1 v.1.2.2.2.2.2).bind fun (x1104 : Int × Int × Int × Int × Int × Int × Int × Int) =>
    (idx v.1.2.1 8).bind fun (x1105 : Nat) =>
    let x1106 : Int := (if (List.getD [x1104.1, x1104.2.1, x1104.2.2.1, x1104.2.2.2.1, x1104.2.2.2.2.1, x1104.2.2.2.2.2.1, x1104.2.2.2.2.2.2.1, x1104.2.2.2.2.2.2.2] x1105 0) > v.1.2.2.2.1 then (List.getD [x1104.1, x1104.2.1, x1104.2.2.1, x1104.2.2.2.1, x1104.2.2.2.2.1, x1104.2.2.2.2.2.1, x1104.2.2.2.2.2.2.1, x1104.2.2.2.2.2.2.2] x1105 0) else v.1.2.2.2.1)
    (rdx v.1.1 v.1.2.2.2.2.2).bind fun (x1107 : Int × Int × Int × Int × Int × Int × Int × Int) =>
    (idx v.1.2.1 8).bind fun (x1108 : Nat) =>
    (F54_0 ((v.1.2.2.2.2.1, (List.getD [x1107.1, x1107.2.1, x1107.2.2.1, x1107.2.2.2.1, x1107.2.2.2.2.1, x1107.2.2.2.2.2.1, x1107.2.2.2.2.2.2.1, x1107.2.2.2.2.2.2.2] x1108 0)), v.2.2)).bind fun r1109 =>
    let x1110 : Int := (IntKind.wrap .i64 (v.1.2.2.2.2.2 + (1 : Int)))
    K ((v.1.1, (v.1.2.1, (x1103, (x1106, (r1109.1, x1110))))), (v.2.1, r1109.2))
  else
    (F34_0 (((v.1.1).length : Int), v.2.2)).bind fun r1111 =>
    (F55_0 ((v.1.2.2.2.2.1, r1111.1), r1111.2)).bind fun r1112 =>
    some ((v.1.2.2.1, (v.1.2.2.2.1, r1112.1)), r1112.2)

def E26_0 (K : ((((List (Int × Int × Int × Int × Int × Int × Int × Int)) × Int × Int × Int × Int × Int) × (Int × Int × Int) × Bool) → Option ((Int × Int × Int) × Bool))) (v : ((List (Int × Int × Int × Int × Int × Int × Int × Int)) × Int) × Bool) : Option ((Int × Int × Int) × Bool) :=
  bif (((v.1.1).length : Int) == (0 : Int)) then
    some (((0 : Int), ((0 : Int), (0 : Int))), v.2)
  else
    bif (decide (v.1.2 < (0 : Int))) then
      some (((0 : Int), ((0 : Int), (0 : Int))), v.2)
    else
      bif (decide (v.1.2 > (7 : Int))) then
        some (((0 : Int), ((0 : Int), (0 : Int))), v.2)
      else
        (rdx v.1.1 (0 : Int)).bind fun (x1099 : Int × Int × Int × Int × Int × Int × Int × Int) =>
        (idx v.1.2 8).bind fun (x1100 : Nat) =>
        K ((v.1.1, (v.1.2, ((List.getD [x1099.1, x1099.2.1, x1099.2.2.1, x1099.2.2.2.1, x1099.2.2.2.2.1, x1099.2.2.2.2.2.1, x1099.2.2.2.2.2.2.1, x1099.2.2.2.2.2.2.2] x1100 0), ((List.getD [x1099.1, x1099.2.1, x1099.2.2.1, x1099.2.2.2.1, x1099.2.2.2.2.1, x1099.2.2.2.2.2.1, x1099.2.2.2.2.2.2.1, x1099.2.2.2.2.2.2.2] x1100 0), ((0 : Int), (0 : Int)))))), (((0 : Int), ((0 : Int), (0 : Int))), v.2))

def K26_0 : Nat → ((((List (Int × Int × Int × Int × Int × Int × Int × Int)) × Int × Int × Int × Int × Int) × (Int × Int × Int) × Bool) → Option ((Int × Int × Int) × Bool))
  | 0 => (fun _ => none)
  | n + 1 => (B26_0_7 (K26_0 n))
def fuel26_0 (v : ((List (Int × Int × Int × Int × Int × Int × Int × Int)) × Int) × Bool) : Nat := 1000
def F26_0 (v : ((List (Int × Int × Int × Int × Int × Int × Int × Int)) × Int) × Bool) : Option ((Int × Int × Int) × Bool) := E26_0 (K26_0 (fuel26_0 v)) v
noncomputable def k26_0 : List (Known Try.prog E) := [Known.of envOk [5, 1, 1] [(.ptr 0 0 54 [.keep]), .keep, .keep] v54_0 F54_0 w54_0 ok54_0, Known.of envOk [5, 1] [(.ptr 0 0 54 [.keep]), .keep] v34_0 F34_0 w34_0 ok34_0, Known.of envOk [5, 1, 1] [(.ptr 0 0 54 [.keep]), .keep, .keep] v55_0 F55_0 w55_0 ok55_0]
def s26_0_7 : List (Nat × Pat) := [(0, (.ptr 0 0 54 [])), (1, (.ros 55)), (2, .keep), (6, (.ptr 1 0 79 [.keep, .keep, .keep])), (7, .keep), (8, .keep), (9, .keep), (10, .keep)]
noncomputable def L26_0 (n id : Nat) (st : St G) : Option ((Int × Int × Int) × Bool) := match Nat.beq id 7 with | true => cutK Try.prog s26_0_7 [(.ptr 0 0 54 [.keep])] c26_0_7.dec (K26_0 n) st | false => none
set_option maxRecDepth 100000 in
theorem e26_0 (n : Nat) (v : ((List (Int × Int × Int × Int × Int × Int × Int × Int)) × Int) × Bool) : ev Try.prog E (oracle k26_0) Try.f26.ntmps (fun x => mem x [7]) (L26_0 n) (finA Try.prog E Try.f26.results.toList [(.ptr 0 0 54 [.keep])] w26_0.alts) 4000 [.code (Try.f26.body.getD .skip)] (argSt (v26_0.enc v)) = E26_0 (K26_0 n) v := by kernel_rfl
set_option maxRecDepth 100000 in
theorem b26_0_7 (n : Nat) (v : ((List (Int × Int × Int × Int × Int × Int × Int × Int)) × Int × Int × Int × Int × Int) × (Int × Int × Int) × Bool) : evCut Try.prog E (oracle k26_0) Try.f26.ntmps (fun x => mem x [7]) (L26_0 n) (finA Try.prog E Try.f26.results.toList [(.ptr 0 0 54 [.keep])] w26_0.alts) 4000 (todoAt (Try.f26.body.getD .skip) 7) (cutSt s26_0_7 (c26_0_7.enc v)) = B26_0_7 (K26_0 n) v := by kernel_rfl
theorem ok26_0 : FnOk Try.prog E 26 v26_0.enc F26_0 w26_0.enc :=
  fn_known (fn := Try.f26) (c := (Try.f26.body.getD .skip)) Try.func26 (by kernel_rfl) rfl envOk (oracle_ok k26_0) mixed v26_0 F26_0 w26_0 [(.ptr 0 0 54 [.keep])] [7] 4000 L26_0 (by kernel_rfl)
    (List.forall_mem_cons.2 ⟨⟨_, s26_0_7, c26_0_7.dec, c26_0_7.enc, fun n => (K26_0 n), c26_0_7.ok, fun _ _ => rfl, fun _ => rfl, fun n v _ h => (b26_0_7 n v).trans h⟩, fun _ h => (nomatch h)⟩) (fun v _ h => ⟨fuel26_0 v, (e26_0 _ v).trans h⟩) (fun _ => by kernel_rfl) (fun _ => by kernel_rfl) (fun _ _ => by kernel_rfl)
/- (chicane/wide.size).below -/
abbrev A64_0 : Type := (Int × Int) × Int × Int
abbrev R64_0 : Type := Bool
def v64_0 : Pk G ((Int × Int) × Int × Int) := (Pk.fst (pk (Sh.cons (Sh.agg (Sh.cons (Sh.int .u64) (Sh.fst (Sh.cons (Sh.int .u64) Sh.nil)))) (Sh.fst (Sh.cons (Sh.agg (Sh.cons (Sh.int .u64) (Sh.fst (Sh.cons (Sh.int .u64) Sh.nil)))) Sh.nil))) Sh.hnil))
def w64_0 : Wk G Bool := (Wk.one [.keep] (Pk.fst (pk (Sh.fst (Sh.cons Sh.bool Sh.nil)) Sh.hnil)))
def F64_0 (v : (Int × Int) × Int × Int) : Option Bool :=
  bif (decide (v.1.1 < v.2.1)) then
    some (true)
  else
    bif (v.1.1 == v.2.1) then
      some (decide (v.1.2 < v.2.2))
    else
      some (false)

noncomputable def k64_0 : List (Known Try.prog E) := []
noncomputable def L64_0 (n id : Nat) (st : St G) : Option Bool := none
set_option maxRecDepth 100000 in
theorem e64_0 (n : Nat) (v : (Int × Int) × Int × Int) : ev Try.prog E (oracle k64_0) Try.f64.ntmps (fun x => mem x []) (L64_0 n) (finA Try.prog E Try.f64.results.toList [] w64_0.alts) 4000 [.code (Try.f64.body.getD .skip)] (argSt (v64_0.enc v)) = F64_0 v := by kernel_rfl
theorem ok64_0 : FnOk Try.prog E 64 v64_0.enc F64_0 w64_0.enc :=
  fn_known (fn := Try.f64) (c := (Try.f64.body.getD .skip)) Try.func64 (by kernel_rfl) rfl envOk (oracle_ok k64_0) mixed v64_0 F64_0 w64_0 [] [] 4000 L64_0 (by kernel_rfl)
    (fun _ h => nomatch h) (fun v _ h => ⟨0, (e64_0 _ v).trans h⟩) (fun _ => by kernel_rfl) (fun _ => by kernel_rfl) (fun _ _ => by kernel_rfl)
/- chicane/wide.Root -/
abbrev A113_0 : Type := Int × Int
abbrev R113_0 : Type := Int
def v113_0 : Pk G (Int × Int) := (Pk.fst (pk (Sh.fst (Sh.cons (Sh.agg (Sh.cons (Sh.int .i64) (Sh.fst (Sh.cons (Sh.int .u64) Sh.nil)))) Sh.nil)) Sh.hnil))
def w113_0 : Wk G Int := (Wk.one [.keep] (Pk.fst (pk (Sh.fst (Sh.cons (Sh.int .u64) Sh.nil)) Sh.hnil)))
def c113_0_5 : Pk G ((Int × Int) × Int × Int) := (pk (Sh.snd (Sh.cons (Sh.ptr 0 0) (Sh.cons (Sh.int .u64) (Sh.fst (Sh.cons (Sh.int .u64) Sh.nil))))) (Sh.fst (Sh.hfix 0 124 (Sh.cons (Sh.int .u64) (Sh.fst (Sh.cons (Sh.int .u64) Sh.nil))) Sh.hnil)))
def B113_0_5 (K : (((Int × Int) × Int × Int) → Option Int)) (v : (Int × Int) × Int × Int) : Option Int :=
  bif (decide (v.1.1 < v.1.2)) then
    let x1145 : Int := (IntKind.wrap .u64 (v.1.2 - v.1.1))
    let x1146 : Int := (IntKind.wrap .u64 (x1145 + (1 : Int)))
    let x1147 : Int := (IntKind.wrap .u64 (Int.tdiv x1146 (2 : Int)))
    let x1148 : Int := (IntKind.wrap .u64 (v.1.1 + x1147))
    (F98_0 (x1148, x1148)).bind fun r1149 =>
    (F64_0 (v.2, r1149)).bind fun r1150 =>
    bif r1150 then
      let x1151 : Int := (IntKind.wrap .u64 (x1148 - (1 : Int)))
      K ((v.1.1, x1151), v.2)
    else
      K ((x1148, v.1.2), v.2)
  else
    some (v.1.1)

def E113_0 (K : (((Int × Int) × Int × Int) → Option Int)) (v : Int × Int) : Option Int :=
  bif (decide (v.1 < (0 : Int))) then
    some (0 : Int)
  else
    let x1143 : Bool := ((v.1 == (0 : Int)) && ((v.2 == (0 : Int)) && true))
    bif x1143 then
      some (0 : Int)
    else
      let x1144 : Int := (IntKind.wrap .u64 v.1)
      K (((1 : Int), (13835058055282163712 : Int)), (x1144, v.2))

def K113_0 : Nat → (((Int × Int) × Int × Int) → Option Int)
  | 0 => (fun _ => none)
  | n + 1 => (B113_0_5 (K113_0 n))
def fuel113_0 (v : Int × Int) : Nat := 1000
def F113_0 (v : Int × Int) : Option Int := E113_0 (K113_0 (fuel113_0 v)) v
noncomputable def k113_0 : List (Known Try.prog E) := [Known.of envOk [1, 1] [.keep, .keep] v98_0 F98_0 w98_0 ok98_0, Known.of envOk [9, 9] [(.agg [.keep, .keep]), (.agg [.keep, .keep])] v64_0 F64_0 w64_0 ok64_0]
def s113_0_5 : List (Nat × Pat) := [(3, (.ptr 0 0 124 [.keep, .keep])), (4, .keep), (5, .keep)]
noncomputable def L113_0 (n id : Nat) (st : St G) : Option Int := match Nat.beq id 5 with | true => cutK Try.prog s113_0_5 [] c113_0_5.dec (K113_0 n) st | false => none
set_option maxRecDepth 100000 in
theorem e113_0 (n : Nat) (v : Int × Int) : ev Try.prog E (oracle k113_0) Try.f113.ntmps (fun x => mem x [5]) (L113_0 n) (finA Try.prog E Try.f113.results.toList [] w113_0.alts) 4000 [.code (Try.f113.body.getD .skip)] (argSt (v113_0.enc v)) = E113_0 (K113_0 n) v := by kernel_rfl
set_option maxRecDepth 100000 in
theorem b113_0_5 (n : Nat) (v : (Int × Int) × Int × Int) : evCut Try.prog E (oracle k113_0) Try.f113.ntmps (fun x => mem x [5]) (L113_0 n) (finA Try.prog E Try.f113.results.toList [] w113_0.alts) 4000 (todoAt (Try.f113.body.getD .skip) 5) (cutSt s113_0_5 (c113_0_5.enc v)) = B113_0_5 (K113_0 n) v := by kernel_rfl
theorem ok113_0 : FnOk Try.prog E 113 v113_0.enc F113_0 w113_0.enc :=
  fn_known (fn := Try.f113) (c := (Try.f113.body.getD .skip)) Try.func113 (by kernel_rfl) rfl envOk (oracle_ok k113_0) mixed v113_0 F113_0 w113_0 [] [5] 4000 L113_0 (by kernel_rfl)
    (List.forall_mem_cons.2 ⟨⟨_, s113_0_5, c113_0_5.dec, c113_0_5.enc, fun n => (K113_0 n), c113_0_5.ok, fun _ _ => rfl, fun _ => rfl, fun n v _ h => (b113_0_5 n v).trans h⟩, fun _ h => (nomatch h)⟩) (fun v _ h => ⟨fuel113_0 v, (e113_0 _ v).trans h⟩) (fun _ => by kernel_rfl) (fun _ => by kernel_rfl) (fun _ _ => by kernel_rfl)
/- chicane/root.length -/
abbrev A97_0 : Type := List Int × Bool
abbrev R97_0 : Type := Int × Bool
def v97_0 : Pk G (List Int × Bool) := (pk (Sh.snd (Sh.cons (Sh.ptr 0 0) (Sh.fst (Sh.cons (Sh.ros 23) Sh.nil)))) (Sh.fst (Sh.hfix 0 52 (Sh.fst (Sh.cons Sh.bool Sh.nil)) Sh.hnil)))
def w97_0 : Wk G (Int × Bool) := (Wk.one [.keep] (pk (Sh.fst (Sh.cons (Sh.int .i64) Sh.nil)) (Sh.fst (Sh.hfix 0 52 (Sh.fst (Sh.cons Sh.bool Sh.nil)) Sh.hnil))))
def c97_0_4 : Pk G ((Bool × List Int × Int × Int) × (Int × Int) × Bool) := (pk (Sh.snd (Sh.cons (Sh.ptr 0 0) (Sh.snd (Sh.cons (Sh.ptr 1 0) (Sh.cons Sh.bool (Sh.cons (Sh.ros 23) (Sh.cons (Sh.int .i64) (Sh.fst (Sh.cons (Sh.int .i64) Sh.nil))))))))) (Sh.hfix 1 88 (Sh.cons (Sh.int .i64) (Sh.fst (Sh.cons (Sh.int .u64) Sh.nil))) (Sh.fst (Sh.hfix 0 52 (Sh.fst (Sh.cons Sh.bool Sh.nil)) Sh.hnil))))
def B97_0_4 (K : (((Bool × List Int × Int × Int) × (Int × Int) × Bool) → Option (Int × Bool))) (v : (Bool × List Int × Int × Int) × (Int × Int) × Bool) : Option (Int × Bool) :=
  bif (decide (v.1.2.2.2 < v.1.2.2.1)) then
    (rdx v.1.2.1 v.1.2.2.2).bind fun (x1166 : Int) =>
    (F71_0 (x1166, x1166)).bind fun r1167 =>
    (F68_0 (v.2.1, r1167)).bind fun r1168 =>
    bif (!r1168.2) then
      (F113_0 r1168.1).bind fun r1169 =>
      bif (!r1168.2) then
        some ((9223372036854775807 : Int), true)
      else
        bif (decide (r1169 > (9223372036854775807 : Int))) then
          some ((9223372036854775807 : Int), true)
        else
          let x1170 : Int := (IntKind.wrap .i64 r1169)
          some (x1170, v.2.2)
    else
      let x1171 : Int := (IntKind.wrap .i64 (v.1.2.2.2 + (1 : Int)))
      K ((r1168.2, (v.1.2.1, (v.1.2.2.1, x1171))), (r1168.1, v.2.2))
  else
    (F113_0 v.2.1).bind fun r1172 =>
    bif (!v.1.1) then
      some ((9223372036854775807 : Int), true)
    else
      bif (decide (r1172 > (9223372036854775807 : Int))) then
        some ((9223372036854775807 : Int), true)
      else
        let x1173 : Int := (IntKind.wrap .i64 r1172)
        some (x1173, v.2.2)

def E97_0 (K : (((Bool × List Int × Int × Int) × (Int × Int) × Bool) → Option (Int × Bool))) (v : List Int × Bool) : Option (Int × Bool) :=
  K ((true, (v.1, (((v.1).length : Int), (0 : Int)))), (((0 : Int), (0 : Int)), v.2))

def K97_0 : Nat → (((Bool × List Int × Int × Int) × (Int × Int) × Bool) → Option (Int × Bool))
  | 0 => (fun _ => none)
  | n + 1 => (B97_0_4 (K97_0 n))
def fuel97_0 (v : List Int × Bool) : Nat := 1000
def F97_0 (v : List Int × Bool) : Option (Int × Bool) := E97_0 (K97_0 (fuel97_0 v)) v
noncomputable def k97_0 : List (Known Try.prog E) := [Known.of envOk [1, 1] [.keep, .keep] v71_0 F71_0 w71_0 ok71_0, Known.of envOk [9, 9] [(.agg [.keep, .keep]), (.agg [.keep, .keep])] v68_0 F68_0 w68_0 ok68_0, Known.of envOk [9] [(.agg [.keep, .keep])] v113_0 F113_0 w113_0 ok113_0]
def s97_0_4 : List (Nat × Pat) := [(0, (.ptr 0 0 52 [])), (5, (.ptr 1 0 88 [.keep, .keep])), (6, .keep), (10, (.ros 23)), (11, .keep), (12, .keep)]
noncomputable def L97_0 (n id : Nat) (st : St G) : Option (Int × Bool) := match Nat.beq id 4 with | true => cutK Try.prog s97_0_4 [(.ptr 0 0 52 [.keep])] c97_0_4.dec (K97_0 n) st | false => none
set_option maxRecDepth 100000 in
theorem e97_0 (n : Nat) (v : List Int × Bool) : ev Try.prog E (oracle k97_0) Try.f97.ntmps (fun x => mem x [4]) (L97_0 n) (finA Try.prog E Try.f97.results.toList [(.ptr 0 0 52 [.keep])] w97_0.alts) 4000 [.code (Try.f97.body.getD .skip)] (argSt (v97_0.enc v)) = E97_0 (K97_0 n) v := by kernel_rfl
set_option maxRecDepth 100000 in
theorem b97_0_4 (n : Nat) (v : (Bool × List Int × Int × Int) × (Int × Int) × Bool) : evCut Try.prog E (oracle k97_0) Try.f97.ntmps (fun x => mem x [4]) (L97_0 n) (finA Try.prog E Try.f97.results.toList [(.ptr 0 0 52 [.keep])] w97_0.alts) 4000 (todoAt (Try.f97.body.getD .skip) 4) (cutSt s97_0_4 (c97_0_4.enc v)) = B97_0_4 (K97_0 n) v := by kernel_rfl
theorem ok97_0 : FnOk Try.prog E 97 v97_0.enc F97_0 w97_0.enc :=
  fn_known (fn := Try.f97) (c := (Try.f97.body.getD .skip)) Try.func97 (by kernel_rfl) rfl envOk (oracle_ok k97_0) mixed v97_0 F97_0 w97_0 [(.ptr 0 0 52 [.keep])] [4] 4000 L97_0 (by kernel_rfl)
    (List.forall_mem_cons.2 ⟨⟨_, s97_0_4, c97_0_4.dec, c97_0_4.enc, fun n => (K97_0 n), c97_0_4.ok, fun _ _ => rfl, fun _ => rfl, fun n v _ h => (b97_0_4 n v).trans h⟩, fun _ h => (nomatch h)⟩) (fun v _ h => ⟨fuel97_0 v, (e97_0 _ v).trans h⟩) (fun _ => by kernel_rfl) (fun _ => by kernel_rfl) (fun _ _ => by kernel_rfl)
/- chicane/root.Len3 -/
abbrev A69_0 : Type := (Int × Int × Int) × Bool
abbrev R69_0 : Type := Int × Bool
def v69_0 : Pk G ((Int × Int × Int) × Bool) := (pk (Sh.snd (Sh.cons (Sh.ptr 0 0) (Sh.cons (Sh.int .i64) (Sh.cons (Sh.int .i64) (Sh.fst (Sh.cons (Sh.int .i64) Sh.nil)))))) (Sh.fst (Sh.hfix 0 52 (Sh.fst (Sh.cons Sh.bool Sh.nil)) Sh.hnil)))
def w69_0 : Wk G (Int × Bool) := (Wk.one [.keep] (pk (Sh.fst (Sh.cons (Sh.int .i64) Sh.nil)) (Sh.fst (Sh.hfix 0 52 (Sh.fst (Sh.cons Sh.bool Sh.nil)) Sh.hnil))))
def F69_0 (v : (Int × Int × Int) × Bool) : Option (Int × Bool) :=
  (F97_0 (([v.1.1, v.1.2.1, v.1.2.2] : List Int), v.2)).bind fun r1176 =>
  some (r1176)

noncomputable def k69_0 : List (Known Try.prog E) := [Known.of envOk [5, 7] [(.ptr 0 0 52 [.keep]), (.ros 23)] v97_0 F97_0 w97_0 ok97_0]
noncomputable def L69_0 (n id : Nat) (st : St G) : Option (Int × Bool) := none
set_option maxRecDepth 100000 in
theorem e69_0 (n : Nat) (v : (Int × Int × Int) × Bool) : ev Try.prog E (oracle k69_0) Try.f69.ntmps (fun x => mem x []) (L69_0 n) (finA Try.prog E Try.f69.results.toList [(.ptr 0 0 52 [.keep])] w69_0.alts) 4000 [.code (Try.f69.body.getD .skip)] (argSt (v69_0.enc v)) = F69_0 v := by kernel_rfl
theorem ok69_0 : FnOk Try.prog E 69 v69_0.enc F69_0 w69_0.enc :=
  fn_known (fn := Try.f69) (c := (Try.f69.body.getD .skip)) Try.func69 (by kernel_rfl) rfl envOk (oracle_ok k69_0) mixed v69_0 F69_0 w69_0 [(.ptr 0 0 52 [.keep])] [] 4000 L69_0 (by kernel_rfl)
    (fun _ h => nomatch h) (fun v _ h => ⟨0, (e69_0 _ v).trans h⟩) (fun _ => by kernel_rfl) (fun _ => by kernel_rfl) (fun _ _ => by kernel_rfl)
/- chicane/vec.Len -/
abbrev A31_0 : Type := (Int × Int × Int) × Bool
abbrev R31_0 : Type := Int × Bool
def v31_0 : Pk G ((Int × Int × Int) × Bool) := (pk (Sh.snd (Sh.cons (Sh.ptr 0 0) (Sh.fst (Sh.cons (Sh.agg (Sh.cons (Sh.int .i64) (Sh.cons (Sh.int .i64) (Sh.fst (Sh.cons (Sh.int .i64) Sh.nil))))) Sh.nil)))) (Sh.fst (Sh.hfix 0 52 (Sh.fst (Sh.cons Sh.bool Sh.nil)) Sh.hnil)))
def w31_0 : Wk G (Int × Bool) := (Wk.one [.keep] (pk (Sh.fst (Sh.cons (Sh.int .i64) Sh.nil)) (Sh.fst (Sh.hfix 0 52 (Sh.fst (Sh.cons Sh.bool Sh.nil)) Sh.hnil))))
def F31_0 (v : (Int × Int × Int) × Bool) : Option (Int × Bool) :=
  (F69_0 v).bind fun r1179 =>
  some (r1179)

noncomputable def k31_0 : List (Known Try.prog E) := [Known.of envOk [5, 1, 1, 1] [(.ptr 0 0 52 [.keep]), .keep, .keep, .keep] v69_0 F69_0 w69_0 ok69_0]
noncomputable def L31_0 (n id : Nat) (st : St G) : Option (Int × Bool) := none
set_option maxRecDepth 100000 in
theorem e31_0 (n : Nat) (v : (Int × Int × Int) × Bool) : ev Try.prog E (oracle k31_0) Try.f31.ntmps (fun x => mem x []) (L31_0 n) (finA Try.prog E Try.f31.results.toList [(.ptr 0 0 52 [.keep])] w31_0.alts) 4000 [.code (Try.f31.body.getD .skip)] (argSt (v31_0.enc v)) = F31_0 v := by kernel_rfl
theorem ok31_0 : FnOk Try.prog E 31 v31_0.enc F31_0 w31_0.enc :=
  fn_known (fn := Try.f31) (c := (Try.f31.body.getD .skip)) Try.func31 (by kernel_rfl) rfl envOk (oracle_ok k31_0) mixed v31_0 F31_0 w31_0 [(.ptr 0 0 52 [.keep])] [] 4000 L31_0 (by kernel_rfl)
    (fun _ h => nomatch h) (fun v _ h => ⟨0, (e31_0 _ v).trans h⟩) (fun _ => by kernel_rfl) (fun _ => by kernel_rfl) (fun _ _ => by kernel_rfl)
/- chicane/telemetry.Of -/
abbrev A15_0 : Type := (Int × Int × Int × Int × Int × Int × Int × Int × Int × Int × Int × Int × Int × Int × Int × Bool × Int × Int × Bool × Int × Int × Bool × Int × Int × Bool × Int × Bool × Int × Int × Int × Int × Int × Bool × Bool × Int × Int × Int × Int × Int × Bool × Bool) × Bool
abbrev R15_0 : Type := (Int × Int × Int × Int × Int × Int × Int × Int) × Bool
def v15_0 : Pk G ((Int × Int × Int × Int × Int × Int × Int × Int × Int × Int × Int × Int × Int × Int × Int × Bool × Int × Int × Bool × Int × Int × Bool × Int × Int × Bool × Int × Bool × Int × Int × Int × Int × Int × Bool × Bool × Int × Int × Int × Int × Int × Bool × Bool) × Bool) := (pk (Sh.snd (Sh.cons (Sh.ptr 0 0) (Sh.fst (Sh.cons (Sh.agg (Sh.cons (Sh.int .i64) (Sh.cons (Sh.int .i64) (Sh.cons (Sh.int .i64) (Sh.cons (Sh.int .i64) (Sh.cons (Sh.int .i64) (Sh.cons (Sh.int .i64) (Sh.cons (Sh.int .i64) (Sh.cons (Sh.int .i64) (Sh.cons (Sh.int .i64) (Sh.cons (Sh.int .i64) (Sh.cons (Sh.int .i64) (Sh.cons (Sh.int .i64) (Sh.cons (Sh.int .i64) (Sh.cons (Sh.int .i64) (Sh.cons (Sh.int .i64) (Sh.cons Sh.bool (Sh.cons (Sh.int .i64) (Sh.cons (Sh.int .i64) (Sh.cons Sh.bool (Sh.cons (Sh.int .i64) (Sh.cons (Sh.int .i64) (Sh.cons Sh.bool (Sh.cons (Sh.int .i64) (Sh.cons (Sh.int .i64) (Sh.cons Sh.bool (Sh.cons (Sh.int .i64) (Sh.cons Sh.bool (Sh.cons (Sh.int .i64) (Sh.cons (Sh.int .i64) (Sh.cons (Sh.int .u32) (Sh.cons (Sh.int .i64) (Sh.cons (Sh.int .i64) (Sh.cons Sh.bool (Sh.cons Sh.bool (Sh.cons (Sh.int .i64) (Sh.cons (Sh.int .i64) (Sh.cons (Sh.int .i64) (Sh.cons (Sh.int .i64) (Sh.cons (Sh.int .i64) (Sh.cons Sh.bool (Sh.fst (Sh.cons Sh.bool Sh.nil))))))))))))))))))))))))))))))))))))))))))) Sh.nil)))) (Sh.fst (Sh.hfix 0 52 (Sh.fst (Sh.cons Sh.bool Sh.nil)) Sh.hnil)))
def w15_0 : Wk G ((Int × Int × Int × Int × Int × Int × Int × Int) × Bool) := (Wk.one [(.agg [.keep, .keep, .keep, .keep, .keep, .keep, .keep, .keep])] (pk (Sh.fst (Sh.cons (Sh.agg (Sh.cons (Sh.int .i64) (Sh.cons (Sh.int .i64) (Sh.cons (Sh.int .i64) (Sh.cons (Sh.int .i64) (Sh.cons (Sh.int .i64) (Sh.cons (Sh.int .i64) (Sh.cons (Sh.int .i64) (Sh.fst (Sh.cons (Sh.int .i64) Sh.nil)))))))))) Sh.nil)) (Sh.fst (Sh.hfix 0 52 (Sh.fst (Sh.cons Sh.bool Sh.nil)) Sh.hnil))))
def F15_0 (v : (Int × Int × Int × Int × Int × Int × Int × Int × Int × Int × Int × Int × Int × Int × Int × Bool × Int × Int × Bool × Int × Int × Bool × Int × Int × Bool × Int × Bool × Int × Int × Int × Int × Int × Bool × Bool × Int × Int × Int × Int × Int × Bool × Bool) × Bool) : Option ((Int × Int × Int × Int × Int × Int × Int × Int) × Bool) :=
  let x1398 : Int := (if v.1.2.2.2.2.2.2.2.2.2.2.2.2.2.2.1 > v.1.2.2.2.2.2.2.2.2.2.2.2.2.2.2.1 then v.1.2.2.2.2.2.2.2.2.2.2.2.2.2.2.1 else v.1.2.2.2.2.2.2.2.2.2.2.2.2.2.2.1)
  bif v.1.2.2.2.2.2.2.2.2.2.2.2.2.2.2.2.1 then
    let x1399 : Int := (if v.1.2.2.2.2.2.2.2.2.2.2.2.2.2.2.2.2.2.1 > x1398 then v.1.2.2.2.2.2.2.2.2.2.2.2.2.2.2.2.2.2.1 else x1398)
    bif v.1.2.2.2.2.2.2.2.2.2.2.2.2.2.2.2.2.2.2.1 then
      let x1400 : Int := (if v.1.2.2.2.2.2.2.2.2.2.2.2.2.2.2.2.2.2.2.2.2.1 > x1399 then v.1.2.2.2.2.2.2.2.2.2.2.2.2.2.2.2.2.2.2.2.2.1 else x1399)
      bif v.1.2.2.2.2.2.2.2.2.2.2.2.2.2.2.2.2.2.2.2.2.2.1 then
        let x1401 : Int := (if v.1.2.2.2.2.2.2.2.2.2.2.2.2.2.2.2.2.2.2.2.2.2.2.2.1 > x1400 then v.1.2.2.2.2.2.2.2.2.2.2.2.2.2.2.2.2.2.2.2.2.2.2.2.1 else x1400)
        bif v.1.2.2.2.2.2.2.2.2.2.2.2.2.2.2.2.2.2.2.2.2.2.2.2.2.1 then
          (F31_0 ((v.1.2.2.2.1, (v.1.2.2.2.2.1, v.1.2.2.2.2.2.1)), v.2)).bind fun r1402 =>
          (F32_0 (v.1.2.2.2.2.2.2.2.2.2.2.2.2.2.2.2.2.2.2.2.2.2.2.2.2.2.2.2.1, r1402.2)).bind fun r1403 =>
          let x1404 : Int := (IntKind.wrap .i32 v.1.2.2.2.2.2.2.2.2.2.2.2.2.2.2.2.2.2.2.2.2.2.2.2.2.2.2.2.2.2.1)
          let x1405 : Int := (IntKind.wrap .i64 x1404)
          (F31_0 ((v.1.2.2.2.2.2.2.2.2.2.2.1, (v.1.2.2.2.2.2.2.2.2.2.2.2.1, v.1.2.2.2.2.2.2.2.2.2.2.2.2.1)), r1403.2)).bind fun r1406 =>
          (F32_0 ((4 : Int), r1406.2)).bind fun r1407 =>
          some ((r1402.1, (v.1.2.2.1, (v.1.2.2.2.2.2.2.2.2.2.2.2.2.2.2.2.2.2.2.2.2.2.2.2.2.2.1, (r1403.1, (x1405, (x1401, (r1406.1, r1407.1))))))), r1407.2)
        else
          (F31_0 ((v.1.2.2.2.1, (v.1.2.2.2.2.1, v.1.2.2.2.2.2.1)), v.2)).bind fun r1408 =>
          (F32_0 (v.1.2.2.2.2.2.2.2.2.2.2.2.2.2.2.2.2.2.2.2.2.2.2.2.2.2.2.2.1, r1408.2)).bind fun r1409 =>
          let x1410 : Int := (IntKind.wrap .i32 v.1.2.2.2.2.2.2.2.2.2.2.2.2.2.2.2.2.2.2.2.2.2.2.2.2.2.2.2.2.2.1)
          let x1411 : Int := (IntKind.wrap .i64 x1410)
          (F31_0 ((v.1.2.2.2.2.2.2.2.2.2.2.1, (v.1.2.2.2.2.2.2.2.2.2.2.2.1, v.1.2.2.2.2.2.2.2.2.2.2.2.2.1)), r1409.2)).bind fun r1412 =>
          (F32_0 ((3 : Int), r1412.2)).bind fun r1413 =>
          some ((r1408.1, (v.1.2.2.1, (v.1.2.2.2.2.2.2.2.2.2.2.2.2.2.2.2.2.2.2.2.2.2.2.2.2.2.1, (r1409.1, (x1411, (x1401, (r1412.1, r1413.1))))))), r1413.2)
      else
        let x1414 : Int := (if v.1.2.2.2.2.2.2.2.2.2.2.2.2.2.2.2.2.2.2.2.2.2.2.2.1 > x1400 then v.1.2.2.2.2.2.2.2.2.2.2.2.2.2.2.2.2.2.2.2.2.2.2.2.1 else x1400)
        bif v.1.2.2.2.2.2.2.2.2.2.2.2.2.2.2.2.2.2.2.2.2.2.2.2.2.1 then
          (F31_0 ((v.1.2.2.2.1, (v.1.2.2.2.2.1, v.1.2.2.2.2.2.1)), v.2)).bind fun r1415 =>
          (F32_0 (v.1.2.2.2.2.2.2.2.2.2.2.2.2.2.2.2.2.2.2.2.2.2.2.2.2.2.2.2.1, r1415.2)).bind fun r1416 =>
          let x1417 : Int := (IntKind.wrap .i32 v.1.2.2.2.2.2.2.2.2.2.2.2.2.2.2.2.2.2.2.2.2.2.2.2.2.2.2.2.2.2.1)
          let x1418 : Int := (IntKind.wrap .i64 x1417)
          (F31_0 ((v.1.2.2.2.2.2.2.2.2.2.2.1, (v.1.2.2.2.2.2.2.2.2.2.2.2.1, v.1.2.2.2.2.2.2.2.2.2.2.2.2.1)), r1416.2)).bind fun r1419 =>
          (F32_0 ((3 : Int), r1419.2)).bind fun r1420 =>
          some ((r1415.1, (v.1.2.2.1, (v.1.2.2.2.2.2.2.2.2.2.2.2.2.2.2.2.2.2.2.2.2.2.2.2.2.2.1, (r1416.1, (x1418, (x1414, (r1419.1, r1420.1))))))), r1420.2)
        else
          (F31_0 ((v.1.2.2.2.1, (v.1.2.2.2.2.1, v.1.2.2.2.2.2.1)), v.2)).bind fun r1421 =>
          (F32_0 (v.1.2.2.2.2.2.2.2.2.2.2.2.2.2.2.2.2.2.2.2.2.2.2.2.2.2.2.2.1, r1421.2)).bind fun r1422 =>
          let x1423 : Int := (IntKind.wrap .i32 v.1.2.2.2.2.2.2.2.2.2.2.2.2.2.2.2.2.2.2.2.2.2.2.2.2.2.2.2.2.2.1)
          let x1424 : Int := (IntKind.wrap .i64 x1423)
          (F31_0 ((v.1.2.2.2.2.2.2.2.2.2.2.1, (v.1.2.2.2.2.2.2.2.2.2.2.2.1, v.1.2.2.2.2.2.2.2.2.2.2.2.2.1)), r1422.2)).bind fun r1425 =>
          (F32_0 ((2 : Int), r1425.2)).bind fun r1426 =>
          some ((r1421.1, (v.1.2.2.1, (v.1.2.2.2.2.2.2.2.2.2.2.2.2.2.2.2.2.2.2.2.2.2.2.2.2.2.1, (r1422.1, (x1424, (x1414, (r1425.1, r1426.1))))))), r1426.2)
    else
      let x1427 : Int := (if v.1.2.2.2.2.2.2.2.2.2.2.2.2.2.2.2.2.2.2.2.2.1 > x1399 then v.1.2.2.2.2.2.2.2.2.2.2.2.2.2.2.2.2.2.2.2.2.1 else x1399)
      bif v.1.2.2.2.2.2.2.2.2.2.2.2.2.2.2.2.2.2.2.2.2.2.1 then
        let x1428 : Int := (if v.1.2.2.2.2.2.2.2.2.2.2.2.2.2.2.2.2.2.2.2.2.2.2.2.1 > x1427 then v.1.2.2.2.2.2.2.2.2.2.2.2.2.2.2.2.2.2.2.2.2.2.2.2.1 else x1427)
        bif v.1.2.2.2.2.2.2.2.2.2.2.2.2.2.2.2.2.2.2.2.2.2.2.2.2.1 then
          (F31_0 ((v.1.2.2.2.1, (v.1.2.2.2.2.1, v.1.2.2.2.2.2.1)), v.2)).bind fun r1429 =>
          (F32_0 (v.1.2.2.2.2.2.2.2.2.2.2.2.2.2.2.2.2.2.2.2.2.2.2.2.2.2.2.2.1, r1429.2)).bind fun r1430 =>
          let x1431 : Int := (IntKind.wrap .i32 v.1.2.2.2.2.2.2.2.2.2.2.2.2.2.2.2.2.2.2.2.2.2.2.2.2.2.2.2.2.2.1)
          let x1432 : Int := (IntKind.wrap .i64 x1431)
          (F31_0 ((v.1.2.2.2.2.2.2.2.2.2.2.1, (v.1.2.2.2.2.2.2.2.2.2.2.2.1, v.1.2.2.2.2.2.2.2.2.2.2.2.2.1)), r1430.2)).bind fun r1433 =>
          (F32_0 ((3 : Int), r1433.2)).bind fun r1434 =>
          some ((r1429.1, (v.1.2.2.1, (v.1.2.2.2.2.2.2.2.2.2.2.2.2.2.2.2.2.2.2.2.2.2.2.2.2.2.1, (r1430.1, (x1432, (x1428, (r1433.1, r1434.1))))))), r1434.2)
        else
          (F31_0 ((v.1.2.2.2.1, (v.1.2.2.2.2.1, v.1.2.2.2.2.2.1)), v.2)).bind fun r1435 =>
          (F32_0 (v.1.2.2.2.2.2.2.2.2.2.2.2.2.2.2.2.2.2.2.2.2.2.2.2.2.2.2.2.1, r1435.2)).bind fun r1436 =>
          let x1437 : Int := (IntKind.wrap .i32 v.1.2.2.2.2.2.2.2.2.2.2.2.2.2.2.2.2.2.2.2.2.2.2.2.2.2.2.2.2.2.1)
          let x1438 : Int := (IntKind.wrap .i64 x1437)
          (F31_0 ((v.1.2.2.2.2.2.2.2.2.2.2.1, (v.1.2.2.2.2.2.2.2.2.2.2.2.1, v.1.2.2.2.2.2.2.2.2.2.2.2.2.1)), r1436.2)).bind fun r1439 =>
          (F32_0 ((2 : Int), r1439.2)).bind fun r1440 =>
          some ((r1435.1, (v.1.2.2.1, (v.1.2.2.2.2.2.2.2.2.2.2.2.2.2.2.2.2.2.2.2.2.2.2.2.2.2.1, (r1436.1, (x1438, (x1428, (r1439.1, r1440.1))))))), r1440.2)
      else
        let x1441 : Int := (if v.1.2.2.2.2.2.2.2.2.2.2.2.2.2.2.2.2.2.2.2.2.2.2.2.1 > x1427 then v.1.2.2.2.2.2.2.2.2.2.2.2.2.2.2.2.2.2.2.2.2.2.2.2.1 else x1427)
        bif v.1.2.2.2.2.2.2.2.2.2.2.2.2.2.2.2.2.2.2.2.2.2.2.2.2.1 then
          (F31_0 ((v.1.2.2.2.1, (v.1.2.2.2.2.1, v.1.2.2.2.2.2.1)), v.2)).bind fun r1442 =>
          (F32_0 (v.1.2.2.2.2.2.2.2.2.2.2.2.2.2.2.2.2.2.2.2.2.2.2.2.2.2.2.2.1, r1442.2)).bind fun r1443 =>
          let x1444 : Int := (IntKind.wrap .i32 v.1.2.2.2.2.2.2.2.2.2.2.2.2.2.2.2.2.2.2.2.2.2.2.2.2.2.2.2.2.2.1)
          let x1445 : Int := (IntKind.wrap .i64 x1444)
          (F31_0 ((v.1.2.2.2.2.2.2.2.2.2.2.1, (v.1.2.2.2.2.2.2.2.2.2.2.2.1, v.1.2.2.2.2.2.2.2.2.2.2.2.2.1)), r1443.2)).bind fun r1446 =>
          (F32_0 ((2 : Int), r1446.2)).bind fun r1447 =>
          some ((r1442.1, (v.1.2.2.1, (v.1.2.2.2.2.2.2.2.2.2.2.2.2.2.2.2.2.2.2.2.2.2.2.2.2.2.1, (r1443.1, (x1445, (x1441, (r1446.1, r1447.1))))))), r1447.2)
        else
          (F31_0 ((v.1.2.2.2.1, (v.1.2.2.2.2.1, v.1.2.2.2.2.2.1)), v.2)).bind fun r1448 =>
          (F32_0 (v.1.2.2.2.2.2.2.2.2.2.2.2.2.2.2.2.2.2.2.2.2.2.2.2.2.2.2.2.1, r1448.2)).bind fun r1449 =>
          let x1450 : Int := (IntKind.wrap .i32 v.1.2.2.2.2.2.2.2.2.2.2.2.2.2.2.2.2.2.2.2.2.2.2.2.2.2.2.2.2.2.1)
          let x1451 : Int := (IntKind.wrap .i64 x1450)
          (F31_0 ((v.1.2.2.2.2.2.2.2.2.2.2.1, (v.1.2.2.2.2.2.2.2.2.2.2.2.1, v.1.2.2.2.2.2.2.2.2.2.2.2.2.1)), r1449.2)).bind fun r1452 =>
          (F32_0 ((1 : Int), r1452.2)).bind fun r1453 =>
          some ((r1448.1, (v.1.2.2.1, (v.1.2.2.2.2.2.2.2.2.2.2.2.2.2.2.2.2.2.2.2.2.2.2.2.2.2.1, (r1449.1, (x1451, (x1441, (r1452.1, r1453.1))))))), r1453.2)
  else
    let x1454 : Int := (if v.1.2.2.2.2.2.2.2.2.2.2.2.2.2.2.2.2.2.1 > x1398 then v.1.2.2.2.2.2.2.2.2.2.2.2.2.2.2.2.2.2.1 else x1398)
    bif v.1.2.2.2.2.2.2.2.2.2.2.2.2.2.2.2.2.2.2.1 then
      let x1455 : Int := (if v.1.2.2.2.2.2.2.2.2.2.2.2.2.2.2.2.2.2.2.2.2.1 > x1454 then v.1.2.2.2.2.2.2.2.2.2.2.2.2.2.2.2.2.2.2.2.2.1 else x1454)
      bif v.1.2.2.2.2.2.2.2.2.2.2.2.2.2.2.2.2.2.2.2.2.2.1 then
        let x1456 : Int := (if v.1.2.2.2.2.2.2.2.2.2.2.2.2.2.2.2.2.2.2.2.2.2.2.2.1 > x1455 then v.1.2.2.2.2.2.2.2.2.2.2.2.2.2.2.2.2.2.2.2.2.2.2.2.1 else x1455)
        bif v.1.2.2.2.2.2.2.2.2.2.2.2.2.2.2.2.2.2.2.2.2.2.2.2.2.1 then
          (F31_0 ((v.1.2.2.2.1, (v.1.2.2.2.2.1, v.1.2.2.2.2.2.1)), v.2)).bind fun r1457 =>
          (F32_0 (v.1.2.2.2.2.2.2.2.2.2.2.2.2.2.2.2.2.2.2.2.2.2.2.2.2.2.2.2.1, r1457.2)).bind fun r1458 =>
          let x1459 : Int := (IntKind.wrap .i32 v.1.2.2.2.2.2.2.2.2.2.2.2.2.2.2.2.2.2.2.2.2.2.2.2.2.2.2.2.2.2.1)
          let x1460 : Int := (IntKind.wrap .i64 x1459)
          (F31_0 ((v.1.2.2.2.2.2.2.2.2.2.2.1, (v.1.2.2.2.2.2.2.2.2.2.2.2.1, v.1.2.2.2.2.2.2.2.2.2.2.2.2.1)), r1458.2)).bind fun r1461 =>
          (F32_0 ((3 : Int), r1461.2)).bind fun r1462 =>
          some ((r1457.1, (v.1.2.2.1, (v.1.2.2.2.2.2.2.2.2.2.2.2.2.2.2.2.2.2.2.2.2.2.2.2.2.2.1, (r1458.1, (x1460, (x1456, (r1461.1, r1462.1))))))), r1462.2)
        else
          (F31_0 ((v.1.2.2.2.1, (v.1.2.2.2.2.1, v.1.2.2.2.2.2.1)), v.2)).bind fun r1463 =>
          (F32_0 (v.1.2.2.2.2.2.2.2.2.2.2.2.2.2.2.2.2.2.2.2.2.2.2.2.2.2.2.2.1, r1463.2)).bind fun r1464 =>
          let x1465 : Int := (IntKind.wrap .i32 v.1.2.2.2.2.2.2.2.2.2.2.2.2.2.2.2.2.2.2.2.2.2.2.2.2.2.2.2.2.2.1)
          let x1466 : Int := (IntKind.wrap .i64 x1465)
          (F31_0 ((v.1.2.2.2.2.2.2.2.2.2.2.1, (v.1.2.2.2.2.2.2.2.2.2.2.2.1, v.1.2.2.2.2.2.2.2.2.2.2.2.2.1)), r1464.2)).bind fun r1467 =>
          (F32_0 ((2 : Int), r1467.2)).bind fun r1468 =>
          some ((r1463.1, (v.1.2.2.1, (v.1.2.2.2.2.2.2.2.2.2.2.2.2.2.2.2.2.2.2.2.2.2.2.2.2.2.1, (r1464.1, (x1466, (x1456, (r1467.1, r1468.1))))))), r1468.2)
      else
        let x1469 : Int := (if v.1.2.2.2.2.2.2.2.2.2.2.2.2.2.2.2.2.2.2.2.2.2.2.2.1 > x1455 then v.1.2.2.2.2.2.2.2.2.2.2.2.2.2.2.2.2.2.2.2.2.2.2.2.1 else x1455)
        bif v.1.2.2.2.2.2.2.2.2.2.2.2.2.2.2.2.2.2.2.2.2.2.2.2.2.1 then
          (F31_0 ((v.1.2.2.2.1, (v.1.2.2.2.2.1, v.1.2.2.2.2.2.1)), v.2)).bind fun r1470 =>
          (F32_0 (v.1.2.2.2.2.2.2.2.2.2.2.2.2.2.2.2.2.2.2.2.2.2.2.2.2.2.2.2.1, r1470.2)).bind fun r1471 =>
          let x1472 : Int := (IntKind.wrap .i32 v.1.2.2.2.2.2.2.2.2.2.2.2.2.2.2.2.2.2.2.2.2.2.2.2.2.2.2.2.2.2.1)
          let x1473 : Int := (IntKind.wrap .i64 x1472)
          (F31_0 ((v.1.2.2.2.2.2.2.2.2.2.2.1, (v.1.2.2.2.2.2.2.2.2.2.2.2.1, v.1.2.2.2.2.2.2.2.2.2.2.2.2.1)), r1471.2)).bind fun r1474 =>
          (F32_0 ((2 : Int), r1474.2)).bind fun r1475 =>
          some ((r1470.1, (v.1.2.2.1, (v.1.2.2.2.2.2.2.2.2.2.2.2.2.2.2.2.2.2.2.2.2.2.2.2.2.2.1, (r1471.1, (x1473, (x1469, (r1474.1, r1475.1))))))), r1475.2)
        else
          (F31_0 ((v.1.2.2.2.1, (v.1.2.2.2.2.1, v.1.2.2.2.2.2.1)), v.2)).bind fun r1476 =>
          (F32_0 (v.1.2.2.2.2.2.2.2.2.2.2.2.2.2.2.2.2.2.2.2.2.2.2.2.2.2.2.2.1, r1476.2)).bind fun r1477 =>
          let x1478 : Int := (IntKind.wrap .i32 v.1.2.2.2.2.2.2.2.2.2.2.2.2.2.2.2.2.2.2.2.2.2.2.2.2.2.2.2.2.2.1)
          let x1479 : Int := (IntKind.wrap .i64 x1478)
          (F31_0 ((v.1.2.2.2.2.2.2.2.2.2.2.1, (v.1.2.2.2.2.2.2.2.2.2.2.2.1, v.1.2.2.2.2.2.2.2.2.2.2.2.2.1)), r1477.2)).bind fun r1480 =>
          (F32_0 ((1 : Int), r1480.2)).bind fun r1481 =>
          some ((r1476.1, (v.1.2.2.1, (v.1.2.2.2.2.2.2.2.2.2.2.2.2.2.2.2.2.2.2.2.2.2.2.2.2.2.1, (r1477.1, (x1479, (x1469, (r1480.1, r1481.1))))))), r1481.2)
    else
      let x1482 : Int := (if v.1.2.2.2.2.2.2.2.2.2.2.2.2.2.2.2.2.2.2.2.2.1 > x1454 then v.1.2.2.2.2.2.2.2.2.2.2.2.2.2.2.2.2.2.2.2.2.1 else x1454)
      bif v.1.2.2.2.2.2.2.2.2.2.2.2.2.2.2.2.2.2.2.2.2.2.1 then
        let x1483 : Int := (if v.1.2.2.2.2.2.2.2.2.2.2.2.2.2.2.2.2.2.2.2.2.2.2.2.1 > x1482 then v.1.2.2.2.2.2.2.2.2.2.2.2.2.2.2.2.2.2.2.2.2.2.2.2.1 else x1482)
        bif v.1.2.2.2.2.2.2.2.2.2.2.2.2.2.2.2.2.2.2.2.2.2.2.2.2.1 then
          (F31_0 ((v.1.2.2.2.1, (v.1.2.2.2.2.1, v.1.2.2.2.2.2.1)), v.2)).bind fun r1484 =>
          (F32_0 (v.1.2.2.2.2.2.2.2.2.2.2.2.2.2.2.2.2.2.2.2.2.2.2.2.2.2.2.2.1, r1484.2)).bind fun r1485 =>
          let x1486 : Int := (IntKind.wrap .i32 v.1.2.2.2.2.2.2.2.2.2.2.2.2.2.2.2.2.2.2.2.2.2.2.2.2.2.2.2.2.2.1)
          let x1487 : Int := (IntKind.wrap .i64 x1486)
          (F31_0 ((v.1.2.2.2.2.2.2.2.2.2.2.1, (v.1.2.2.2.2.2.2.2.2.2.2.2.1, v.1.2.2.2.2.2.2.2.2.2.2.2.2.1)), r1485.2)).bind fun r1488 =>
          (F32_0 ((2 : Int), r1488.2)).bind fun r1489 =>
          some ((r1484.1, (v.1.2.2.1, (v.1.2.2.2.2.2.2.2.2.2.2.2.2.2.2.2.2.2.2.2.2.2.2.2.2.2.1, (r1485.1, (x1487, (x1483, (r1488.1, r1489.1))))))), r1489.2)
        else
          (F31_0 ((v.1.2.2.2.1, (v.1.2.2.2.2.1, v.1.2.2.2.2.2.1)), v.2)).bind fun r1490 =>
          (F32_0 (v.1.2.2.2.2.2.2.2.2.2.2.2.2.2.2.2.2.2.2.2.2.2.2.2.2.2.2.2.1, r1490.2)).bind fun r1491 =>
          let x1492 : Int := (IntKind.wrap .i32 v.1.2.2.2.2.2.2.2.2.2.2.2.2.2.2.2.2.2.2.2.2.2.2.2.2.2.2.2.2.2.1)
          let x1493 : Int := (IntKind.wrap .i64 x1492)
          (F31_0 ((v.1.2.2.2.2.2.2.2.2.2.2.1, (v.1.2.2.2.2.2.2.2.2.2.2.2.1, v.1.2.2.2.2.2.2.2.2.2.2.2.2.1)), r1491.2)).bind fun r1494 =>
          (F32_0 ((1 : Int), r1494.2)).bind fun r1495 =>
          some ((r1490.1, (v.1.2.2.1, (v.1.2.2.2.2.2.2.2.2.2.2.2.2.2.2.2.2.2.2.2.2.2.2.2.2.2.1, (r1491.1, (x1493, (x1483, (r1494.1, r1495.1))))))), r1495.2)
      else
        let x1496 : Int := (if v.1.2.2.2.2.2.2.2.2.2.2.2.2.2.2.2.2.2.2.2.2.2.2.2.1 > x1482 then v.1.2.2.2.2.2.2.2.2.2.2.2.2.2.2.2.2.2.2.2.2.2.2.2.1 else x1482)
        bif v.1.2.2.2.2.2.2.2.2.2.2.2.2.2.2.2.2.2.2.2.2.2.2.2.2.1 then
          (F31_0 ((v.1.2.2.2.1, (v.1.2.2.2.2.1, v.1.2.2.2.2.2.1)), v.2)).bind fun r1497 =>
          (F32_0 (v.1.2.2.2.2.2.2.2.2.2.2.2.2.2.2.2.2.2.2.2.2.2.2.2.2.2.2.2.1, r1497.2)).bind fun r1498 =>
          let x1499 : Int := (IntKind.wrap .i32 v.1.2.2.2.2.2.2.2.2.2.2.2.2.2.2.2.2.2.2.2.2.2.2.2.2.2.2.2.2.2.1)
          let x1500 : Int := (IntKind.wrap .i64 x1499)
          (F31_0 ((v.1.2.2.2.2.2.2.2.2.2.2.1, (v.1.2.2.2.2.2.2.2.2.2.2.2.1, v.1.2.2.2.2.2.2.2.2.2.2.2.2.1)), r1498.2)).bind fun r1501 =>
          (F32_0 ((1 : Int), r1501.2)).bind fun r1502 =>
          some ((r1497.1, (v.1.2.2.1, (v.1.2.2.2.2.2.2.2.2.2.2.2.2.2.2.2.2.2.2.2.2.2.2.2.2.2.1, (r1498.1, (x1500, (x1496, (r1501.1, r1502.1))))))), r1502.2)
        else
          (F31_0 ((v.1.2.2.2.1, (v.1.2.2.2.2.1, v.1.2.2.2.2.2.1)), v.2)).bind fun r1503 =>
          (F32_0 (v.1.2.2.2.2.2.2.2.2.2.2.2.2.2.2.2.2.2.2.2.2.2.2.2.2.2.2.2.1, r1503.2)).bind fun r1504 =>
          let x1505 : Int := (IntKind.wrap .i32 v.1.2.2.2.2.2.2.2.2.2.2.2.2.2.2.2.2.2.2.2.2.2.2.2.2.2.2.2.2.2.1)
          let x1506 : Int := (IntKind.wrap .i64 x1505)
          (F31_0 ((v.1.2.2.2.2.2.2.2.2.2.2.1, (v.1.2.2.2.2.2.2.2.2.2.2.2.1, v.1.2.2.2.2.2.2.2.2.2.2.2.2.1)), r1504.2)).bind fun r1507 =>
          (F32_0 ((0 : Int), r1507.2)).bind fun r1508 =>
          some ((r1503.1, (v.1.2.2.1, (v.1.2.2.2.2.2.2.2.2.2.2.2.2.2.2.2.2.2.2.2.2.2.2.2.2.2.1, (r1504.1, (x1506, (x1496, (r1507.1, r1508.1))))))), r1508.2)

noncomputable def k15_0 : List (Known Try.prog E) := [Known.of envOk [5, 9] [(.ptr 0 0 52 [.keep]), (.agg [.keep, .keep, .keep])] v31_0 F31_0 w31_0 ok31_0, Known.of envOk [5, 1] [(.ptr 0 0 52 [.keep]), .keep] v32_0 F32_0 w32_0 ok32_0]
noncomputable def L15_0 (n id : Nat) (st : St G) : Option ((Int × Int × Int × Int × Int × Int × Int × Int) × Bool) := none
set_option maxRecDepth 100000 in
theorem e15_0 (n : Nat) (v : (Int × Int × Int × Int × Int × Int × Int × Int × Int × Int × Int × Int × Int × Int × Int × Bool × Int × Int × Bool × Int × Int × Bool × Int × Int × Bool × Int × Bool × Int × Int × Int × Int × Int × Bool × Bool × Int × Int × Int × Int × Int × Bool × Bool) × Bool) : ev Try.prog E (oracle k15_0) Try.f15.ntmps (fun x => mem x []) (L15_0 n) (finA Try.prog E Try.f15.results.toList [(.ptr 0 0 52 [.keep])] w15_0.alts) 4000 [.code (Try.f15.body.getD .skip)] (argSt (v15_0.enc v)) = F15_0 v := by kernel_rfl
theorem ok15_0 : FnOk Try.prog E 15 v15_0.enc F15_0 w15_0.enc :=
  fn_known (fn := Try.f15) (c := (Try.f15.body.getD .skip)) Try.func15 (by kernel_rfl) rfl envOk (oracle_ok k15_0) mixed v15_0 F15_0 w15_0 [(.ptr 0 0 52 [.keep])] [] 4000 L15_0 (by kernel_rfl)
    (fun _ h => nomatch h) (fun v _ h => ⟨0, (e15_0 _ v).trans h⟩) (fun _ => by kernel_rfl) (fun _ => by kernel_rfl) (fun _ _ => by kernel_rfl)
/- chicane/wire.marked -/
abbrev A75_0 : Type := ByteArray
abbrev R75_0 : Type := Int × Int × Int × Int
def v75_0 : Pk G ByteArray := (Pk.fst (pk (Sh.fst (Sh.cons Sh.str Sh.nil)) Sh.hnil))
def w75_0 : Wk G (Int × Int × Int × Int) := (Wk.one [(.agg [.keep, .keep, .keep, .keep])] (Pk.fst (pk (Sh.fst (Sh.cons (Sh.agg (Sh.cons (Sh.int .u8) (Sh.cons (Sh.int .u8) (Sh.cons (Sh.int .u8) (Sh.fst (Sh.cons (Sh.int .u8) Sh.nil)))))) Sh.nil)) Sh.hnil)))
def F75_0 (v : ByteArray) : Option (Int × Int × Int × Int) :=
  some ((if 0 < (v).size then byteI v 0 else (0 : Int)), ((if 1 < (v).size then byteI v 1 else (0 : Int)), ((if 2 < (v).size then byteI v 2 else (0 : Int)), (if 3 < (v).size then byteI v 3 else (0 : Int)))))

noncomputable def k75_0 : List (Known Try.prog E) := []
noncomputable def L75_0 (n id : Nat) (st : St G) : Option (Int × Int × Int × Int) := none
set_option maxRecDepth 100000 in
theorem e75_0 (n : Nat) (v : ByteArray) : ev Try.prog E (oracle k75_0) Try.f75.ntmps (fun x => mem x []) (L75_0 n) (finA Try.prog E Try.f75.results.toList [] w75_0.alts) 4000 [.code (Try.f75.body.getD .skip)] (argSt (v75_0.enc v)) = F75_0 v := by kernel_rfl
theorem ok75_0 : FnOk Try.prog E 75 v75_0.enc F75_0 w75_0.enc :=
  fn_known (fn := Try.f75) (c := (Try.f75.body.getD .skip)) Try.func75 (by kernel_rfl) rfl envOk (oracle_ok k75_0) mixed v75_0 F75_0 w75_0 [] [] 4000 L75_0 (by kernel_rfl)
    (fun _ h => nomatch h) (fun v _ h => ⟨0, (e75_0 _ v).trans h⟩) (fun _ => by kernel_rfl) (fun _ => by kernel_rfl) (fun _ _ => by kernel_rfl)
/- (*chicane/wire.Out).Mark -/
abbrev A36_0 : Type := ByteArray × List Int
abbrev R36_0 : Type := List Int
def v36_0 : Pk G (ByteArray × List Int) := (pk (Sh.snd (Sh.cons (Sh.ptr 0 0) (Sh.fst (Sh.cons Sh.str Sh.nil)))) (Sh.snd (Sh.hfix 0 96 (Sh.snd (Sh.cons (Sh.osl 1) Sh.nil)) (Sh.fst (Sh.hrow 1 5 Sh.hnil)))))
def w36_0 : Wk G (List Int) := (Wk.one [] (Pk.snd (pk Sh.nil (Sh.snd (Sh.hfix 0 96 (Sh.snd (Sh.cons (Sh.osl 2) Sh.nil)) (Sh.fst (Sh.hrow 2 5 Sh.hnil)))))))
def F36_0 (v : ByteArray × List Int) : Option (List Int) :=
  (F75_0 v.1).bind fun r1515 =>
  (chk (decide (((v.2).length + (([r1515.1, r1515.2.1, r1515.2.2.1, r1515.2.2.2] : List Int)).length) * 1 ≤ 140737488355328))).bind fun _ =>
  let x1516 : List Int := (v.2 ++ ([r1515.1, r1515.2.1, r1515.2.2.1, r1515.2.2.2] : List Int))
  some (x1516)

noncomputable def k36_0 : List (Known Try.prog E) := [Known.of envOk [3] [.keep] v75_0 F75_0 w75_0 ok75_0]
noncomputable def L36_0 (n id : Nat) (st : St G) : Option (List Int) := none
set_option maxRecDepth 100000 in
theorem e36_0 (n : Nat) (v : ByteArray × List Int) : ev Try.prog E (oracle k36_0) Try.f36.ntmps (fun x => mem x []) (L36_0 n) (finA Try.prog E Try.f36.results.toList [(.ptr 0 0 96 [(.own 2 5)])] w36_0.alts) 4000 [.code (Try.f36.body.getD .skip)] (argSt (v36_0.enc v)) = F36_0 v := by kernel_rfl
theorem ok36_0 : FnOk Try.prog E 36 v36_0.enc F36_0 w36_0.enc :=
  fn_known (fn := Try.f36) (c := (Try.f36.body.getD .skip)) Try.func36 (by kernel_rfl) rfl envOk (oracle_ok k36_0) mixed v36_0 F36_0 w36_0 [(.ptr 0 0 96 [(.own 2 5)])] [] 4000 L36_0 (by kernel_rfl)
    (fun _ h => nomatch h) (fun v _ h => ⟨0, (e36_0 _ v).trans h⟩) (fun _ => by kernel_rfl) (fun _ => by kernel_rfl) (fun _ _ => by kernel_rfl)
/- chicane/wire.low -/
abbrev A76_0 : Type := (Int × Int) × List Int
abbrev R76_0 : Type := List Int
def v76_0 : Pk G ((Int × Int) × List Int) := (pk (Sh.snd (Sh.cons (Sh.osl 0) (Sh.cons (Sh.int .u64) (Sh.fst (Sh.cons (Sh.int .i64) Sh.nil))))) (Sh.fst (Sh.hrow 0 5 Sh.hnil)))
def w76_0 : Wk G (List Int) := (Wk.one [(.own 1 5)] (Pk.snd (pk (Sh.snd (Sh.cons (Sh.osl 1) Sh.nil)) (Sh.fst (Sh.hrow 1 5 Sh.hnil)))))
def c76_0_2 : Pk G ((Int × Int × Int) × List Int) := (pk (Sh.snd (Sh.cons (Sh.osl 1) (Sh.cons (Sh.int .u64) (Sh.cons (Sh.int .i64) (Sh.fst (Sh.cons (Sh.int .i64) Sh.nil)))))) (Sh.fst (Sh.hrow 1 5 Sh.hnil)))
def B76_0_2 (K : (((Int × Int × Int) × List Int) → Option (List Int))) (v : (Int × Int × Int) × List Int) : Option (List Int) :=
  bif (decide (v.1.2.2 < v.1.2.1)) then
    let x1531 : Int := (IntKind.wrap .u8 v.1.1)
    (chk (decide (((v.2).length + (([x1531] : List Int)).length) * 1 ≤ 140737488355328))).bind fun _ =>
    let x1532 : List Int := (v.2 ++ ([x1531] : List Int))
    let x1533 : Int := (Int.fdiv v.1.1 (2 ^ 8))
    let x1534 : Int := (IntKind.wrap .i64 (v.1.2.2 + (1 : Int)))
    K ((x1533, (v.1.2.1, x1534)), x1532)
  else
    some (v.2)

def E76_0 (K : (((Int × Int × Int) × List Int) → Option (List Int))) (v : (Int × Int) × List Int) : Option (List Int) :=
  K ((v.1.1, (v.1.2, (0 : Int))), v.2)

def K76_0 : Nat → (((Int × Int × Int) × List Int) → Option (List Int))
  | 0 => (fun _ => none)
  | n + 1 => (B76_0_2 (K76_0 n))
def fuel76_0 (v : (Int × Int) × List Int) : Nat := 1000
def F76_0 (v : (Int × Int) × List Int) : Option (List Int) := E76_0 (K76_0 (fuel76_0 v)) v
noncomputable def k76_0 : List (Known Try.prog E) := []
def s76_0_2 : List (Nat × Pat) := [(0, (.own 1 5)), (1, .keep), (7, .keep), (8, .keep)]
noncomputable def L76_0 (n id : Nat) (st : St G) : Option (List Int) := match Nat.beq id 2 with | true => cutK Try.prog s76_0_2 [] c76_0_2.dec (K76_0 n) st | false => none
set_option maxRecDepth 100000 in
theorem e76_0 (n : Nat) (v : (Int × Int) × List Int) : ev Try.prog E (oracle k76_0) Try.f76.ntmps (fun x => mem x [2]) (L76_0 n) (finA Try.prog E Try.f76.results.toList [] w76_0.alts) 4000 [.code (Try.f76.body.getD .skip)] (argSt (v76_0.enc v)) = E76_0 (K76_0 n) v := by kernel_rfl
set_option maxRecDepth 100000 in
theorem b76_0_2 (n : Nat) (v : (Int × Int × Int) × List Int) : evCut Try.prog E (oracle k76_0) Try.f76.ntmps (fun x => mem x [2]) (L76_0 n) (finA Try.prog E Try.f76.results.toList [] w76_0.alts) 4000 (todoAt (Try.f76.body.getD .skip) 2) (cutSt s76_0_2 (c76_0_2.enc v)) = B76_0_2 (K76_0 n) v := by kernel_rfl
theorem ok76_0 : FnOk Try.prog E 76 v76_0.enc F76_0 w76_0.enc :=
  fn_known (fn := Try.f76) (c := (Try.f76.body.getD .skip)) Try.func76 (by kernel_rfl) rfl envOk (oracle_ok k76_0) mixed v76_0 F76_0 w76_0 [] [2] 4000 L76_0 (by kernel_rfl)
    (List.forall_mem_cons.2 ⟨⟨_, s76_0_2, c76_0_2.dec, c76_0_2.enc, fun n => (K76_0 n), c76_0_2.ok, fun _ _ => rfl, fun _ => rfl, fun n v _ h => (b76_0_2 n v).trans h⟩, fun _ h => (nomatch h)⟩) (fun v _ h => ⟨fuel76_0 v, (e76_0 _ v).trans h⟩) (fun _ => by kernel_rfl) (fun _ => by kernel_rfl) (fun _ _ => by kernel_rfl)
/- (*chicane/wire.Out).Num -/
abbrev A37_0 : Type := Int × List Int
abbrev R37_0 : Type := List Int
def v37_0 : Pk G (Int × List Int) := (pk (Sh.snd (Sh.cons (Sh.ptr 0 0) (Sh.fst (Sh.cons (Sh.int .i64) Sh.nil)))) (Sh.snd (Sh.hfix 0 96 (Sh.snd (Sh.cons (Sh.osl 1) Sh.nil)) (Sh.fst (Sh.hrow 1 5 Sh.hnil)))))
def w37_0 : Wk G (List Int) := (Wk.one [] (Pk.snd (pk Sh.nil (Sh.snd (Sh.hfix 0 96 (Sh.snd (Sh.cons (Sh.osl 2) Sh.nil)) (Sh.fst (Sh.hrow 2 5 Sh.hnil)))))))
def F37_0 (v : Int × List Int) : Option (List Int) :=
  let x1538 : Int := (IntKind.wrap .u64 v.1)
  (F76_0 ((x1538, (8 : Int)), v.2)).bind fun r1539 =>
  some (r1539)

noncomputable def k37_0 : List (Known Try.prog E) := [Known.of envOk [7, 1, 1] [(.own 0 5), .keep, .keep] v76_0 F76_0 w76_0 ok76_0]
noncomputable def L37_0 (n id : Nat) (st : St G) : Option (List Int) := none
set_option maxRecDepth 100000 in
theorem e37_0 (n : Nat) (v : Int × List Int) : ev Try.prog E (oracle k37_0) Try.f37.ntmps (fun x => mem x []) (L37_0 n) (finA Try.prog E Try.f37.results.toList [(.ptr 0 0 96 [(.own 2 5)])] w37_0.alts) 4000 [.code (Try.f37.body.getD .skip)] (argSt (v37_0.enc v)) = F37_0 v := by kernel_rfl
theorem ok37_0 : FnOk Try.prog E 37 v37_0.enc F37_0 w37_0.enc :=
  fn_known (fn := Try.f37) (c := (Try.f37.body.getD .skip)) Try.func37 (by kernel_rfl) rfl envOk (oracle_ok k37_0) mixed v37_0 F37_0 w37_0 [(.ptr 0 0 96 [(.own 2 5)])] [] 4000 L37_0 (by kernel_rfl)
    (fun _ h => nomatch h) (fun v _ h => ⟨0, (e37_0 _ v).trans h⟩) (fun _ => by kernel_rfl) (fun _ => by kernel_rfl) (fun _ _ => by kernel_rfl)
/- (*chicane/wire.Out).Raw -/
abbrev A39_0 : Type := List Int × List Int
abbrev R39_0 : Type := List Int
def v39_0 : Pk G (List Int × List Int) := (pk (Sh.snd (Sh.cons (Sh.ptr 0 0) (Sh.fst (Sh.cons (Sh.ros 5) Sh.nil)))) (Sh.snd (Sh.hfix 0 96 (Sh.snd (Sh.cons (Sh.osl 1) Sh.nil)) (Sh.fst (Sh.hrow 1 5 Sh.hnil)))))
def w39_0 : Wk G (List Int) := (Wk.one [] (Pk.snd (pk Sh.nil (Sh.snd (Sh.hfix 0 96 (Sh.snd (Sh.cons (Sh.osl 2) Sh.nil)) (Sh.fst (Sh.hrow 2 5 Sh.hnil)))))))
def F39_0 (v : List Int × List Int) : Option (List Int) :=
  (chk (decide (((v.2).length + (v.1).length) * 1 ≤ 140737488355328))).bind fun _ =>
  let x1544 : List Int := (v.2 ++ v.1)
  some (x1544)

noncomputable def k39_0 : List (Known Try.prog E) := []
noncomputable def L39_0 (n id : Nat) (st : St G) : Option (List Int) := none
set_option maxRecDepth 100000 in
theorem e39_0 (n : Nat) (v : List Int × List Int) : ev Try.prog E (oracle k39_0) Try.f39.ntmps (fun x => mem x []) (L39_0 n) (finA Try.prog E Try.f39.results.toList [(.ptr 0 0 96 [(.own 2 5)])] w39_0.alts) 4000 [.code (Try.f39.body.getD .skip)] (argSt (v39_0.enc v)) = F39_0 v := by kernel_rfl
theorem ok39_0 : FnOk Try.prog E 39 v39_0.enc F39_0 w39_0.enc :=
  fn_known (fn := Try.f39) (c := (Try.f39.body.getD .skip)) Try.func39 (by kernel_rfl) rfl envOk (oracle_ok k39_0) mixed v39_0 F39_0 w39_0 [(.ptr 0 0 96 [(.own 2 5)])] [] 4000 L39_0 (by kernel_rfl)
    (fun _ h => nomatch h) (fun v _ h => ⟨0, (e39_0 _ v).trans h⟩) (fun _ => by kernel_rfl) (fun _ => by kernel_rfl) (fun _ _ => by kernel_rfl)
/- slices.Clone[[]byte,byte] -/
abbrev A77_n : Type := Unit
abbrev R77_n : Type := List Int
def v77_n : Pk G Unit := (Pk.snd (pk (Sh.snd (Sh.cons Sh.nilsl Sh.nil)) Sh.hnil))
def w77_n : Wk G (List Int) := (Wk.one [(.own 0 5)] (Pk.snd (pk (Sh.snd (Sh.cons (Sh.osl 0) Sh.nil)) (Sh.fst (Sh.hrow 0 5 Sh.hnil)))))
def F77_n (v : Unit) : Option (List Int) :=
  some ([] : List Int)

noncomputable def k77_n : List (Known Try.prog E) := []
noncomputable def L77_n (n id : Nat) (st : St G) : Option (List Int) := none
set_option maxRecDepth 100000 in
theorem e77_n (n : Nat) (v : Unit) : ev Try.prog E (oracle k77_n) Try.f77.ntmps (fun x => mem x []) (L77_n n) (finA Try.prog E Try.f77.results.toList [] w77_n.alts) 4000 [.code (Try.f77.body.getD .skip)] (argSt (v77_n.enc v)) = F77_n v := by kernel_rfl
theorem ok77_n : FnOk Try.prog E 77 v77_n.enc F77_n w77_n.enc :=
  fn_known (fn := Try.f77) (c := (Try.f77.body.getD .skip)) Try.func77 (by kernel_rfl) rfl envOk (oracle_ok k77_n) mixed v77_n F77_n w77_n [] [] 4000 L77_n (by kernel_rfl)
    (fun _ h => nomatch h) (fun v _ h => ⟨0, (e77_n _ v).trans h⟩) (fun _ => by kernel_rfl) (fun _ => by kernel_rfl) (fun _ _ => by kernel_rfl)
/- slices.Clone[[]byte,byte] -/
abbrev A77_r : Type := List Int
abbrev R77_r : Type := List Int
def v77_r : Pk G (List Int) := (Pk.fst (pk (Sh.fst (Sh.cons (Sh.rosn 5) Sh.nil)) Sh.hnil))
def w77_r : Wk G (List Int) := (Wk.one [(.own 0 5)] (Pk.snd (pk (Sh.snd (Sh.cons (Sh.osl 0) Sh.nil)) (Sh.fst (Sh.hrow 0 5 Sh.hnil)))))
def F77_r (v : List Int) : Option (List Int) :=
  (chk (decide (((([] : List Int)).length + (v).length) * 1 ≤ 140737488355328))).bind fun _ =>
  let x1548 : List Int := (([] : List Int) ++ v)
  some (x1548)

noncomputable def k77_r : List (Known Try.prog E) := []
noncomputable def L77_r (n id : Nat) (st : St G) : Option (List Int) := none
set_option maxRecDepth 100000 in
theorem e77_r (n : Nat) (v : List Int) : ev Try.prog E (oracle k77_r) Try.f77.ntmps (fun x => mem x []) (L77_r n) (finA Try.prog E Try.f77.results.toList [] w77_r.alts) 4000 [.code (Try.f77.body.getD .skip)] (argSt (v77_r.enc v)) = F77_r v := by kernel_rfl
theorem ok77_r : FnOk Try.prog E 77 v77_r.enc F77_r w77_r.enc :=
  fn_known (fn := Try.f77) (c := (Try.f77.body.getD .skip)) Try.func77 (by kernel_rfl) rfl envOk (oracle_ok k77_r) mixed v77_r F77_r w77_r [] [] 4000 L77_r (by kernel_rfl)
    (fun _ h => nomatch h) (fun v _ h => ⟨0, (e77_r _ v).trans h⟩) (fun _ => by kernel_rfl) (fun _ => by kernel_rfl) (fun _ _ => by kernel_rfl)
/- slices.Clone[[]byte,byte] -/
abbrev A77_0 : Type := List Int
abbrev R77_0 : Type := List Int
def v77_0 : Pk G (List Int) := (Pk.fst (pk (Sh.fst (Sh.cons (Sh.ros 5) Sh.nil)) Sh.hnil))
def w77_0 : Wk G (List Int) := (Wk.one [(.own 0 5)] (Pk.snd (pk (Sh.snd (Sh.cons (Sh.osl 0) Sh.nil)) (Sh.fst (Sh.hrow 0 5 Sh.hnil)))))
def F77_0 (v : List Int) : Option (List Int) := F77_r v
theorem on77_0 : FnOk Try.prog E 77 (fun _ : Unit => ([AV.nilsl], [])) F77_n w77_0.enc := ok77_n
theorem or77_0 : FnOk Try.prog E 77 (fun xs : List (G 5) => ([AV.rosn 5 xs], [])) F77_r w77_0.enc := ok77_r
theorem ok77_0 : FnOk Try.prog E 77 v77_0.enc F77_0 w77_0.enc := FnOk.split (e := 5) on77_0 or77_0 (fun _ h => (by kernel_rfl : F77_n () = F77_r []).trans h) (fun _ _ h => h)
/- (*chicane/wire.Out).Bytes -/
abbrev A40_0 : Type := List Int
abbrev R40_0 : Type := List Int × List Int
def v40_0 : Pk G (List Int) := (Pk.snd (pk (Sh.snd (Sh.cons (Sh.ptr 0 0) Sh.nil)) (Sh.snd (Sh.hfix 0 96 (Sh.snd (Sh.cons (Sh.osl 1) Sh.nil)) (Sh.fst (Sh.hrow 1 5 Sh.hnil))))))
def w40_0 : Wk G (List Int × List Int) := (Wk.one [(.own 2 5)] (Pk.snd (pk (Sh.snd (Sh.cons (Sh.osl 2) Sh.nil)) (Sh.hrow 2 5 (Sh.snd (Sh.hfix 0 96 (Sh.snd (Sh.cons (Sh.osl 1) Sh.nil)) (Sh.fst (Sh.hrow 1 5 Sh.hnil))))))))
def F40_0 (v : List Int) : Option (List Int × List Int) :=
  (F77_0 v).bind fun r1551 =>
  some (r1551, v)

noncomputable def k40_0 : List (Known Try.prog E) := [Known.of envOk [7] [(.ros 5)] v77_0 F77_0 w77_0 ok77_0]
noncomputable def L40_0 (n id : Nat) (st : St G) : Option (List Int × List Int) := none
set_option maxRecDepth 100000 in
theorem e40_0 (n : Nat) (v : List Int) : ev Try.prog E (oracle k40_0) Try.f40.ntmps (fun x => mem x []) (L40_0 n) (finA Try.prog E Try.f40.results.toList [(.own 1 5), (.ptr 0 0 96 [(.own 1 5)])] w40_0.alts) 4000 [.code (Try.f40.body.getD .skip)] (argSt (v40_0.enc v)) = F40_0 v := by kernel_rfl
theorem ok40_0 : FnOk Try.prog E 40 v40_0.enc F40_0 w40_0.enc :=
  fn_known (fn := Try.f40) (c := (Try.f40.body.getD .skip)) Try.func40 (by kernel_rfl) rfl envOk (oracle_ok k40_0) mixed v40_0 F40_0 w40_0 [(.own 1 5), (.ptr 0 0 96 [(.own 1 5)])] [] 4000 L40_0 (by kernel_rfl)
    (fun _ h => nomatch h) (fun v _ h => ⟨0, (e40_0 _ v).trans h⟩) (fun _ => by kernel_rfl) (fun _ => by kernel_rfl) (fun _ _ => by kernel_rfl)
/- chicane/telemetry.short -/
abbrev A38_0 : Type := Int × List Int
abbrev R38_0 : Type := List Int
def v38_0 : Pk G (Int × List Int) := (pk (Sh.snd (Sh.cons (Sh.osl 0) (Sh.fst (Sh.cons (Sh.int .i64) Sh.nil)))) (Sh.fst (Sh.hrow 0 5 Sh.hnil)))
def w38_0 : Wk G (List Int) := (Wk.one [(.own 1 5)] (Pk.snd (pk (Sh.snd (Sh.cons (Sh.osl 1) Sh.nil)) (Sh.fst (Sh.hrow 1 5 Sh.hnil)))))
def c38_0_2 : Pk G (Int × List Int) := (pk (Sh.snd (Sh.cons (Sh.osl 1) (Sh.fst (Sh.cons (Sh.int .u64) Sh.nil)))) (Sh.fst (Sh.hrow 1 5 Sh.hnil)))
def B38_0_2 (K : ((Int × List Int) → Option (List Int))) (v : Int × List Int) : Option (List Int) :=
  bif (decide (v.1 ≥ (128 : Int))) then
    let x1594 : Int := (IntKind.wrap .u8 v.1)
    let x1595 : Int := (Go.bits .or .u8 x1594 (128 : Int))
    (chk (decide (((v.2).length + (([x1595] : List Int)).length) * 1 ≤ 140737488355328))).bind fun _ =>
    let x1596 : List Int := (v.2 ++ ([x1595] : List Int))
    let x1597 : Int := (Int.fdiv v.1 (2 ^ 7))
    K (x1597, x1596)
  else
    let x1598 : Int := (IntKind.wrap .u8 v.1)
    (chk (decide (((v.2).length + (([x1598] : List Int)).length) * 1 ≤ 140737488355328))).bind fun _ =>
    let x1599 : List Int := (v.2 ++ ([x1598] : List Int))
    some (x1599)

def E38_0 (K : ((Int × List Int) → Option (List Int))) (v : Int × List Int) : Option (List Int) :=
  let x1589 : Int := (IntKind.wrap .i64 (v.1 * 2 ^ 1))
  let x1590 : Int := (IntKind.wrap .u64 x1589)
  let x1591 : Int := (Int.fdiv v.1 (2 ^ 63))
  let x1592 : Int := (IntKind.wrap .u64 x1591)
  let x1593 : Int := (Go.bits .xor .u64 x1590 x1592)
  K (x1593, v.2)

def K38_0 : Nat → ((Int × List Int) → Option (List Int))
  | 0 => (fun _ => none)
  | n + 1 => (B38_0_2 (K38_0 n))
def fuel38_0 (v : Int × List Int) : Nat := 1000
def F38_0 (v : Int × List Int) : Option (List Int) := E38_0 (K38_0 (fuel38_0 v)) v
noncomputable def k38_0 : List (Known Try.prog E) := []
def s38_0_2 : List (Nat × Pat) := [(0, (.own 1 5)), (5, .keep)]
noncomputable def L38_0 (n id : Nat) (st : St G) : Option (List Int) := match Nat.beq id 2 with | true => cutK Try.prog s38_0_2 [] c38_0_2.dec (K38_0 n) st | false => none
set_option maxRecDepth 100000 in
theorem e38_0 (n : Nat) (v : Int × List Int) : ev Try.prog E (oracle k38_0) Try.f38.ntmps (fun x => mem x [2]) (L38_0 n) (finA Try.prog E Try.f38.results.toList [] w38_0.alts) 4000 [.code (Try.f38.body.getD .skip)] (argSt (v38_0.enc v)) = E38_0 (K38_0 n) v := by kernel_rfl
set_option maxRecDepth 100000 in
theorem b38_0_2 (n : Nat) (v : Int × List Int) : evCut Try.prog E (oracle k38_0) Try.f38.ntmps (fun x => mem x [2]) (L38_0 n) (finA Try.prog E Try.f38.results.toList [] w38_0.alts) 4000 (todoAt (Try.f38.body.getD .skip) 2) (cutSt s38_0_2 (c38_0_2.enc v)) = B38_0_2 (K38_0 n) v := by kernel_rfl
theorem ok38_0 : FnOk Try.prog E 38 v38_0.enc F38_0 w38_0.enc :=
  fn_known (fn := Try.f38) (c := (Try.f38.body.getD .skip)) Try.func38 (by kernel_rfl) rfl envOk (oracle_ok k38_0) mixed v38_0 F38_0 w38_0 [] [2] 4000 L38_0 (by kernel_rfl)
    (List.forall_mem_cons.2 ⟨⟨_, s38_0_2, c38_0_2.dec, c38_0_2.enc, fun n => (K38_0 n), c38_0_2.ok, fun _ _ => rfl, fun _ => rfl, fun n v _ h => (b38_0_2 n v).trans h⟩, fun _ h => (nomatch h)⟩) (fun v _ h => ⟨fuel38_0 v, (e38_0 _ v).trans h⟩) (fun _ => by kernel_rfl) (fun _ => by kernel_rfl) (fun _ _ => by kernel_rfl)
/- chicane/telemetry.Pack -/
abbrev A18_0 : Type := List (Int × Int × Int × Int × Int × Int × Int × Int)
abbrev R18_0 : Type := List Int
def v18_0 : Pk G (List (Int × Int × Int × Int × Int × Int × Int × Int)) := (Pk.fst (pk (Sh.fst (Sh.cons (Sh.ros 56) Sh.nil)) Sh.hnil))
def w18_0 : Wk G (List Int) := (Wk.one [(.own 0 5)] (Pk.snd (pk (Sh.snd (Sh.cons (Sh.osl 0) Sh.nil)) (Sh.fst (Sh.hrow 0 5 Sh.hnil)))))
def c18_0_6 : Pk G (((List (Int × Int × Int × Int × Int × Int × Int × Int)) × Int) × List Int × List Int) := (pk (Sh.cons (Sh.ros 56) (Sh.snd (Sh.cons (Sh.ptr 0 0) (Sh.snd (Sh.cons (Sh.osl 2) (Sh.fst (Sh.cons (Sh.int .i64) Sh.nil))))))) (Sh.hrow 2 5 (Sh.snd (Sh.hfix 0 96 (Sh.snd (Sh.cons (Sh.osl 1) Sh.nil)) (Sh.fst (Sh.hrow 1 5 Sh.hnil))))))
def c18_0_10 : Pk G (((List (Int × Int × Int × Int × Int × Int × Int × Int)) × Int × Int × Int × (List (Int × Int × Int × Int × Int × Int × Int × Int)) × Int × Int) × List Int × List Int) := (pk (Sh.cons (Sh.ros 56) (Sh.snd (Sh.cons (Sh.ptr 0 0) (Sh.snd (Sh.cons (Sh.osl 2) (Sh.cons (Sh.int .i64) (Sh.cons (Sh.int .i64) (Sh.cons (Sh.int .i64) (Sh.cons (Sh.ros 56) (Sh.cons (Sh.int .i64) (Sh.fst (Sh.cons (Sh.int .i64) Sh.nil)))))))))))) (Sh.hrow 2 5 (Sh.snd (Sh.hfix 0 96 (Sh.snd (Sh.cons (Sh.osl 1) Sh.nil)) (Sh.fst (Sh.hrow 1 5 Sh.hnil))))))
def B18_0_6 (K : ((((List (Int × Int × Int × Int × Int × Int × Int × Int)) × Int) × List Int × List Int) → Option (List Int)) × ((((List (Int × Int × Int × Int × Int × Int × Int × Int)) × Int × Int × Int × (List (Int × Int × Int × Int × Int × Int × Int × Int)) × Int × Int) × List Int × List Int) → Option (List Int))) (v : ((List (Int × Int × Int × Int × Int × Int × Int × Int)) × Int) × List Int × List Int) : Option (List Int) :=
  bif (decide (v.1.2 < (8 : Int))) then
    K.2 ((v.1.1, (v.1.2, ((0 : Int), (v.1.2, (v.1.1, (((v.1.1).length : Int), (0 : Int))))))), v.2)
  else
    (F39_0 v.2).bind fun r1619 =>
    (F40_0 r1619).bind fun r1620 =>
    some (r1620.1)

def B18_0_10 (K : ((((List (Int × Int × Int × Int × Int × Int × Int × Int)) × Int) × List Int × List Int) → Option (List Int)) × ((((List (Int × Int × Int × Int × Int × Int × Int × Int)) × Int × Int × Int × (List (Int × Int × Int × Int × Int × Int × Int × Int)) × Int × Int) × List Int × List Int) → Option (List Int))) (v : ((List (Int × Int × Int × Int × Int × Int × Int × Int)) × Int × Int × Int × (List (Int × Int × Int × Int × Int × Int × Int × Int)) × Int × Int) × List Int × List Int) : Option (List Int) :=
  bif (decide (v.1.2.2.2.2.2.2 < v.1.2.2.2.2.2.1)) then
    (rdx v.1.2.2.2.2.1 v.1.2.2.2.2.2.2).bind fun (x1621 : Int × Int × Int × Int × Int × Int × Int × Int) =>
    (idx v.1.2.1 8).bind fun (x1622 : Nat) =>
    let x1623 : Int := (IntKind.wrap .i64 ((List.getD [x1621.1, x1621.2.1, x1621.2.2.1, x1621.2.2.2.1, x1621.2.2.2.2.1, x1621.2.2.2.2.2.1, x1621.2.2.2.2.2.2.1, x1621.2.2.2.2.2.2.2] x1622 0) - v.1.2.2.1))
    (F38_0 (x1623, v.2.1)).bind fun r1624 =>
    (idx v.1.2.1 8).bind fun (x1625 : Nat) =>
    let x1626 : Int := (IntKind.wrap .i64 (v.1.2.2.2.2.2.2 + (1 : Int)))
    K.2 ((v.1.1, (v.1.2.1, ((List.getD [x1621.1, x1621.2.1, x1621.2.2.1, x1621.2.2.2.1, x1621.2.2.2.2.1, x1621.2.2.2.2.2.1, x1621.2.2.2.2.2.2.1, x1621.2.2.2.2.2.2.2] x1625 0), (v.1.2.2.2.1, (v.1.2.2.2.2.1, (v.1.2.2.2.2.2.1, x1626)))))), (r1624, v.2.2))
  else
    let x1627 : Int := (IntKind.wrap .i64 (v.1.2.2.2.1 + (1 : Int)))
    K.1 ((v.1.1, x1627), v.2)

def E18_0 (K : ((((List (Int × Int × Int × Int × Int × Int × Int × Int)) × Int) × List Int × List Int) → Option (List Int)) × ((((List (Int × Int × Int × Int × Int × Int × Int × Int)) × Int × Int × Int × (List (Int × Int × Int × Int × Int × Int × Int × Int)) × Int × Int) × List Int × List Int) → Option (List Int))) (v : List (Int × Int × Int × Int × Int × Int × Int × Int)) : Option (List Int) :=
  (F36_0 (sc1, ([] : List Int))).bind fun r1617 =>
  (F37_0 (((v).length : Int), r1617)).bind fun r1618 =>
  K.1 ((v, (0 : Int)), (([] : List Int), r1618))

def K18_0 : Nat → ((((List (Int × Int × Int × Int × Int × Int × Int × Int)) × Int) × List Int × List Int) → Option (List Int)) × ((((List (Int × Int × Int × Int × Int × Int × Int × Int)) × Int × Int × Int × (List (Int × Int × Int × Int × Int × Int × Int × Int)) × Int × Int) × List Int × List Int) → Option (List Int))
  | 0 => (fun _ => none, fun _ => none)
  | n + 1 => (B18_0_6 (K18_0 n), B18_0_10 (K18_0 n))
def fuel18_0 (v : List (Int × Int × Int × Int × Int × Int × Int × Int)) : Nat := 1000
def F18_0 (v : List (Int × Int × Int × Int × Int × Int × Int × Int)) : Option (List Int) := E18_0 (K18_0 (fuel18_0 v)) v
noncomputable def k18_0 : List (Known Try.prog E) := [Known.of envOk [5, 3] [(.ptr 0 0 96 [(.own 1 5)]), .keep] v36_0 F36_0 w36_0 ok36_0, Known.of envOk [5, 1] [(.ptr 0 0 96 [(.own 1 5)]), .keep] v37_0 F37_0 w37_0 ok37_0, Known.of envOk [5, 7] [(.ptr 0 0 96 [(.own 1 5)]), (.ros 5)] v39_0 F39_0 w39_0 ok39_0, Known.of envOk [5] [(.ptr 0 0 96 [(.own 1 5)])] v40_0 F40_0 w40_0 ok40_0, Known.of envOk [7, 1] [(.own 0 5), .keep] v38_0 F38_0 w38_0 ok38_0]
def s18_0_10 : List (Nat × Pat) := [(0, (.ros 56)), (3, (.ptr 0 0 96 [(.own 1 5)])), (4, (.own 2 5)), (5, .keep), (6, .keep), (17, .keep), (20, (.ros 56)), (21, .keep), (22, .keep)]
def s18_0_6 : List (Nat × Pat) := [(0, (.ros 56)), (3, (.ptr 0 0 96 [(.own 1 5)])), (4, (.own 2 5)), (17, .keep)]
noncomputable def L18_0 (n id : Nat) (st : St G) : Option (List Int) := match Nat.beq id 6 with | true => cutK Try.prog s18_0_6 [] c18_0_6.dec (K18_0 n).1 st | false => match Nat.beq id 10 with | true => cutK Try.prog s18_0_10 [] c18_0_10.dec (K18_0 n).2 st | false => none
set_option maxRecDepth 100000 in
theorem e18_0 (n : Nat) (v : List (Int × Int × Int × Int × Int × Int × Int × Int)) : ev Try.prog E (oracle k18_0) Try.f18.ntmps (fun x => mem x [6, 10]) (L18_0 n) (finA Try.prog E Try.f18.results.toList [] w18_0.alts) 4000 [.code (Try.f18.body.getD .skip)] (argSt (v18_0.enc v)) = E18_0 (K18_0 n) v := by kernel_rfl
set_option maxRecDepth 100000 in
theorem b18_0_6 (n : Nat) (v : ((List (Int × Int × Int × Int × Int × Int × Int × Int)) × Int) × List Int × List Int) : evCut Try.prog E (oracle k18_0) Try.f18.ntmps (fun x => mem x [6, 10]) (L18_0 n) (finA Try.prog E Try.f18.results.toList [] w18_0.alts) 4000 (todoAt (Try.f18.body.getD .skip) 6) (cutSt s18_0_6 (c18_0_6.enc v)) = B18_0_6 (K18_0 n) v := by kernel_rfl
set_option maxRecDepth 100000 in
theorem b18_0_10 (n : Nat) (v : ((List (Int × Int × Int × Int × Int × Int × Int × Int)) × Int × Int × Int × (List (Int × Int × Int × Int × Int × Int × Int × Int)) × Int × Int) × List Int × List Int) : evCut Try.prog E (oracle k18_0) Try.f18.ntmps (fun x => mem x [6, 10]) (L18_0 n) (finA Try.prog E Try.f18.results.toList [] w18_0.alts) 4000 (todoAt (Try.f18.body.getD .skip) 10) (cutSt s18_0_10 (c18_0_10.enc v)) = B18_0_10 (K18_0 n) v := by kernel_rfl
theorem ok18_0 : FnOk Try.prog E 18 v18_0.enc F18_0 w18_0.enc :=
  fn_known (fn := Try.f18) (c := (Try.f18.body.getD .skip)) Try.func18 (by kernel_rfl) rfl envOk (oracle_ok k18_0) mixed v18_0 F18_0 w18_0 [] [6, 10] 4000 L18_0 (by kernel_rfl)
    (List.forall_mem_cons.2 ⟨⟨_, s18_0_6, c18_0_6.dec, c18_0_6.enc, fun n => (K18_0 n).1, c18_0_6.ok, fun _ _ => rfl, fun _ => rfl, fun n v _ h => (b18_0_6 n v).trans h⟩, List.forall_mem_cons.2 ⟨⟨_, s18_0_10, c18_0_10.dec, c18_0_10.enc, fun n => (K18_0 n).2, c18_0_10.ok, fun _ _ => rfl, fun _ => rfl, fun n v _ h => (b18_0_10 n v).trans h⟩, fun _ h => (nomatch h)⟩⟩) (fun v _ h => ⟨fuel18_0 v, (e18_0 _ v).trans h⟩) (fun _ => by kernel_rfl) (fun _ => by kernel_rfl) (fun _ _ => by kernel_rfl)
/- chicane/chicanelaw41.awake -/
abbrev A17_0 : Type := Unit
abbrev R17_0 : Type := Bool
def v17_0 : Pk G Unit := (Pk.snd (pk Sh.nil Sh.hnil))
def w17_0 : Wk G Bool := (Wk.one [.keep] (Pk.fst (pk (Sh.fst (Sh.cons Sh.bool Sh.nil)) Sh.hnil)))
def F17_0 (v : Unit) : Option Bool :=
  (F15_0 (((0 : Int), ((0 : Int), ((0 : Int), ((12884901888 : Int), ((17179869184 : Int), ((0 : Int), ((0 : Int), ((0 : Int), ((0 : Int), ((0 : Int), ((0 : Int), ((0 : Int), ((0 : Int), ((0 : Int), ((0 : Int), (false, ((0 : Int), ((0 : Int), (false, ((0 : Int), ((0 : Int), (false, ((0 : Int), ((0 : Int), (false, ((0 : Int), (false, ((-1 : Int), ((0 : Int), ((0 : Int), ((0 : Int), ((0 : Int), (false, (false, ((0 : Int), ((0 : Int), ((0 : Int), ((0 : Int), ((0 : Int), (false, false)))))))))))))))))))))))))))))))))))))))), false)).bind fun r1631 =>
  (F18_0 ([] : List (Int × Int × Int × Int × Int × Int × Int × Int))).bind fun r1632 =>
  bif (((r1632).length : Int) == (12 : Int)) then
    bif (r1631.1.1 == (21474836480 : Int)) then
      bif (r1631.1.2.2.2.1 == (-4294967296 : Int)) then
        some (!r1631.2)
      else
        some (false)
    else
      some (false)
  else
    some (false)

noncomputable def k17_0 : List (Known Try.prog E) := [Known.of envOk [5, 9] [(.ptr 0 0 52 [.keep]), (.agg [.keep, .keep, .keep, .keep, .keep, .keep, .keep, .keep, .keep, .keep, .keep, .keep, .keep, .keep, .keep, .keep, .keep, .keep, .keep, .keep, .keep, .keep, .keep, .keep, .keep, .keep, .keep, .keep, .keep, .keep, .keep, .keep, .keep, .keep, .keep, .keep, .keep, .keep, .keep, .keep, .keep])] v15_0 F15_0 w15_0 ok15_0, Known.of envOk [7] [(.ros 56)] v18_0 F18_0 w18_0 ok18_0]
noncomputable def L17_0 (n id : Nat) (st : St G) : Option Bool := none
set_option maxRecDepth 100000 in
theorem e17_0 (n : Nat) (v : Unit) : ev Try.prog E (oracle k17_0) Try.f17.ntmps (fun x => mem x []) (L17_0 n) (finA Try.prog E Try.f17.results.toList [] w17_0.alts) 4000 [.code (Try.f17.body.getD .skip)] (argSt (v17_0.enc v)) = F17_0 v := by kernel_rfl
theorem ok17_0 : FnOk Try.prog E 17 v17_0.enc F17_0 w17_0.enc :=
  fn_known (fn := Try.f17) (c := (Try.f17.body.getD .skip)) Try.func17 (by kernel_rfl) rfl envOk (oracle_ok k17_0) mixed v17_0 F17_0 w17_0 [] [] 4000 L17_0 (by kernel_rfl)
    (fun _ h => nomatch h) (fun v _ h => ⟨0, (e17_0 _ v).trans h⟩) (fun _ => by kernel_rfl) (fun _ => by kernel_rfl) (fun _ _ => by kernel_rfl)
/- chicane/chicanelaw41.TelemetryStats -/
abbrev A9_0 : Type := (List (Int × Int × Int × Int × Int × Int × Int × Int)) × Int
abbrev R9_0 : Type := Bool
def v9_0 : Pk G ((List (Int × Int × Int × Int × Int × Int × Int × Int)) × Int) := (Pk.fst (pk (Sh.cons (Sh.ros 56) (Sh.fst (Sh.cons (Sh.int .i64) Sh.nil))) Sh.hnil))
def w9_0 : Wk G Bool := (Wk.one [.keep] (Pk.fst (pk (Sh.fst (Sh.cons Sh.bool Sh.nil)) Sh.hnil)))
def F9_0 (v : (List (Int × Int × Int × Int × Int × Int × Int × Int)) × Int) : Option Bool :=
  bif (decide (((v.1).length : Int) > (200 : Int))) then
    some (true)
  else
    (F25_0 (v, false)).bind fun r1639 =>
    (F20_0 v.1).bind fun r1640 =>
    (F26_0 ((r1640, v.2), false)).bind fun r1641 =>
    let x1642 : Bool := ((r1639.1.1 == r1641.1.1) && ((r1639.1.2.1 == r1641.1.2.1) && ((r1639.1.2.2 == r1641.1.2.2) && true)))
    bif x1642 then
      bif (r1639.2 == r1641.2) then
        (F17_0 ()).bind fun r1643 =>
        some (r1643)
      else
        some (false)
    else
      some (false)

noncomputable def k9_0 : List (Known Try.prog E) := [Known.of envOk [5, 7, 1] [(.ptr 0 0 52 [.keep]), (.ros 56), .keep] v25_0 F25_0 w25_0 ok25_0, Known.of envOk [7] [(.ros 56)] v20_0 F20_0 w20_0 ok20_0, Known.of envOk [5, 7, 1] [(.ptr 0 0 54 [.keep]), (.ros 55), .keep] v26_0 F26_0 w26_0 ok26_0, Known.of envOk [] [] v17_0 F17_0 w17_0 ok17_0]
noncomputable def L9_0 (n id : Nat) (st : St G) : Option Bool := none
set_option maxRecDepth 100000 in
theorem e9_0 (n : Nat) (v : (List (Int × Int × Int × Int × Int × Int × Int × Int)) × Int) : ev Try.prog E (oracle k9_0) Try.f9.ntmps (fun x => mem x []) (L9_0 n) (finA Try.prog E Try.f9.results.toList [] w9_0.alts) 4000 [.code (Try.f9.body.getD .skip)] (argSt (v9_0.enc v)) = F9_0 v := by kernel_rfl
theorem ok9_0 : FnOk Try.prog E 9 v9_0.enc F9_0 w9_0.enc :=
  fn_known (fn := Try.f9) (c := (Try.f9.body.getD .skip)) Try.func9 (by kernel_rfl) rfl envOk (oracle_ok k9_0) mixed v9_0 F9_0 w9_0 [] [] 4000 L9_0 (by kernel_rfl)
    (fun _ h => nomatch h) (fun v _ h => ⟨0, (e9_0 _ v).trans h⟩) (fun _ => by kernel_rfl) (fun _ => by kernel_rfl) (fun _ _ => by kernel_rfl)
/- chicane/chicanelaw41.TelemetryMean -/
abbrev A10_0 : Type := (List (Int × Int × Int × Int × Int × Int × Int × Int)) × Int
abbrev R10_0 : Type := Bool
def v10_0 : Pk G ((List (Int × Int × Int × Int × Int × Int × Int × Int)) × Int) := (Pk.fst (pk (Sh.cons (Sh.ros 56) (Sh.fst (Sh.cons (Sh.int .i64) Sh.nil))) Sh.hnil))
def w10_0 : Wk G Bool := (Wk.one [.keep] (Pk.fst (pk (Sh.fst (Sh.cons Sh.bool Sh.nil)) Sh.hnil)))
def F10_0 (v : (List (Int × Int × Int × Int × Int × Int × Int × Int)) × Int) : Option Bool :=
  bif (decide (((v.1).length : Int) > (200 : Int))) then
    some (true)
  else
    (F25_0 (v, false)).bind fun r1650 =>
    bif r1650.2 then
      (F17_0 ()).bind fun r1651 =>
      some (r1651)
    else
      bif (decide (r1650.1.1 ≤ r1650.1.2.2)) then
        bif (decide (r1650.1.2.2 ≤ r1650.1.2.1)) then
          (F17_0 ()).bind fun r1652 =>
          some (r1652)
        else
          some (false)
      else
        some (false)

noncomputable def k10_0 : List (Known Try.prog E) := [Known.of envOk [5, 7, 1] [(.ptr 0 0 52 [.keep]), (.ros 56), .keep] v25_0 F25_0 w25_0 ok25_0, Known.of envOk [] [] v17_0 F17_0 w17_0 ok17_0]
noncomputable def L10_0 (n id : Nat) (st : St G) : Option Bool := none
set_option maxRecDepth 100000 in
theorem e10_0 (n : Nat) (v : (List (Int × Int × Int × Int × Int × Int × Int × Int)) × Int) : ev Try.prog E (oracle k10_0) Try.f10.ntmps (fun x => mem x []) (L10_0 n) (finA Try.prog E Try.f10.results.toList [] w10_0.alts) 4000 [.code (Try.f10.body.getD .skip)] (argSt (v10_0.enc v)) = F10_0 v := by kernel_rfl
theorem ok10_0 : FnOk Try.prog E 10 v10_0.enc F10_0 w10_0.enc :=
  fn_known (fn := Try.f10) (c := (Try.f10.body.getD .skip)) Try.func10 (by kernel_rfl) rfl envOk (oracle_ok k10_0) mixed v10_0 F10_0 w10_0 [] [] 4000 L10_0 (by kernel_rfl)
    (fun _ h => nomatch h) (fun v _ h => ⟨0, (e10_0 _ v).trans h⟩) (fun _ => by kernel_rfl) (fun _ => by kernel_rfl) (fun _ _ => by kernel_rfl)
def Dom9_0 (v : (List (Int × Int × Int × Int × Int × Int × Int × Int)) × Int) : Prop := (((v.1).length ≤ maxLen ∧ ∀ x ∈ v.1, (Lit.int .i64 x.1).wf = true ∧ (Lit.int .i64 x.2.1).wf = true ∧ (Lit.int .i64 x.2.2.1).wf = true ∧ (Lit.int .i64 x.2.2.2.1).wf = true ∧ (Lit.int .i64 x.2.2.2.2.1).wf = true ∧ (Lit.int .i64 x.2.2.2.2.2.1).wf = true ∧ (Lit.int .i64 x.2.2.2.2.2.2.1).wf = true ∧ (Lit.int .i64 x.2.2.2.2.2.2.2).wf = true)) ∧ (Lit.int .i64 v.2).wf = true
def Dom10_0 (v : (List (Int × Int × Int × Int × Int × Int × Int × Int)) × Int) : Prop := (((v.1).length ≤ maxLen ∧ ∀ x ∈ v.1, (Lit.int .i64 x.1).wf = true ∧ (Lit.int .i64 x.2.1).wf = true ∧ (Lit.int .i64 x.2.2.1).wf = true ∧ (Lit.int .i64 x.2.2.2.1).wf = true ∧ (Lit.int .i64 x.2.2.2.2.1).wf = true ∧ (Lit.int .i64 x.2.2.2.2.2.1).wf = true ∧ (Lit.int .i64 x.2.2.2.2.2.2.1).wf = true ∧ (Lit.int .i64 x.2.2.2.2.2.2.2).wf = true)) ∧ (Lit.int .i64 v.2).wf = true
end Go.Proofs.Ytfhhpfhmplgndaa.Ev
