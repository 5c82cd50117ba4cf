import Derived.Test.YtdjjinfpfjoniaaXEnv
set_option linter.unusedVariables false
namespace Go.Proofs.Ytdjjinfpfjoniaa.Ev
open Go Go.RowKit
/- chicane/plane.near -/
abbrev A23_0 : Type := List (Int × Int)
abbrev R23_0 : Type := Bool
def v23_0 : Pk G (List (Int × Int)) := (Pk.fst (pk (Sh.fst (Sh.cons (Sh.ros 25) Sh.nil)) Sh.hnil))
def w23_0 : Wk G Bool := (Wk.one [.keep] (Pk.fst (pk (Sh.fst (Sh.cons Sh.bool Sh.nil)) Sh.hnil)))
def c23_0_2 : Pk G ((List (Int × Int)) × Int × Int) := (Pk.fst (pk (Sh.cons (Sh.ros 25) (Sh.cons (Sh.int .i64) (Sh.fst (Sh.cons (Sh.int .i64) Sh.nil)))) Sh.hnil))
def B23_0_2 (K : (((List (Int × Int)) × Int × Int) → Option Bool)) (v : (List (Int × Int)) × Int × Int) : Option Bool :=
  bif (decide (v.2.2 < v.2.1)) then
    (rdx v.1 v.2.2).bind fun (x17 : Int × Int) =>
    let x18 : Int := (if x17.2 > x17.1 then x17.2 else x17.1)
    bif (decide (x18 > (281474976710656 : Int))) then
      some (false)
    else
      let x19 : Int := (if x17.2 < x17.1 then x17.2 else x17.1)
      bif (decide (x19 < (-281474976710656 : Int))) then
        some (false)
      else
        let x20 : Int := (IntKind.wrap .i64 (v.2.2 + (1 : Int)))
        K (v.1, (v.2.1, x20))
  else
    some (true)

def E23_0 (K : (((List (Int × Int)) × Int × Int) → Option Bool)) (v : List (Int × Int)) : Option Bool :=
  K (v, (((v).length : Int), (0 : Int)))

def K23_0 : Nat → (((List (Int × Int)) × Int × Int) → Option Bool)
  | 0 => (fun _ => none)
  | n + 1 => (B23_0_2 (K23_0 n))
def fuel23_0 (v : List (Int × Int)) : Nat := 1000
def F23_0 (v : List (Int × Int)) : Option Bool := E23_0 (K23_0 (fuel23_0 v)) v
noncomputable def k23_0 : List (Known Try.prog E) := []
def s23_0_2 : List (Nat × Pat) := [(5, (.ros 25)), (6, .keep), (7, .keep)]
noncomputable def L23_0 (n id : Nat) (st : St G) : Option Bool := match Nat.beq id 2 with | true => cutK Try.prog s23_0_2 [] c23_0_2.dec (K23_0 n) st | false => none
set_option maxRecDepth 100000 in
theorem e23_0 (n : Nat) (v : List (Int × Int)) : ev Try.prog E (oracle k23_0) Try.f23.ntmps (fun x => mem x [2]) (L23_0 n) (finA Try.prog E Try.f23.results.toList [] w23_0.alts) 4000 [.code (Try.f23.body.getD .skip)] (argSt (v23_0.enc v)) = E23_0 (K23_0 n) v := by kernel_rfl
set_option maxRecDepth 100000 in
theorem b23_0_2 (n : Nat) (v : (List (Int × Int)) × Int × Int) : evCut Try.prog E (oracle k23_0) Try.f23.ntmps (fun x => mem x [2]) (L23_0 n) (finA Try.prog E Try.f23.results.toList [] w23_0.alts) 4000 (todoAt (Try.f23.body.getD .skip) 2) (cutSt s23_0_2 (c23_0_2.enc v)) = B23_0_2 (K23_0 n) v := by kernel_rfl
theorem ok23_0 : FnOk Try.prog E 23 v23_0.enc F23_0 w23_0.enc :=
  fn_known (fn := Try.f23) (c := (Try.f23.body.getD .skip)) Try.func23 (by kernel_rfl) rfl envOk (oracle_ok k23_0) mixed v23_0 F23_0 w23_0 [] [2] 4000 L23_0 (by kernel_rfl)
    (List.forall_mem_cons.2 ⟨⟨_, s23_0_2, c23_0_2.dec, c23_0_2.enc, fun n => (K23_0 n), c23_0_2.ok, fun _ _ => rfl, fun _ => rfl, fun n v _ h => (b23_0_2 n v).trans h⟩, fun _ h => (nomatch h)⟩) (fun v _ h => ⟨fuel23_0 v, (e23_0 _ v).trans h⟩) (fun _ => by kernel_rfl) (fun _ => by kernel_rfl) (fun _ _ => by kernel_rfl)
/- chicane/plane.from -/
abbrev A41_0 : Type := (Int × Int) × Int × Int
abbrev R41_0 : Type := Int × Int
def v41_0 : Pk G ((Int × Int) × Int × Int) := (Pk.fst (pk (Sh.cons (Sh.agg (Sh.cons (Sh.int .i64) (Sh.fst (Sh.cons (Sh.int .i64) Sh.nil)))) (Sh.fst (Sh.cons (Sh.agg (Sh.cons (Sh.int .i64) (Sh.fst (Sh.cons (Sh.int .i64) Sh.nil)))) Sh.nil))) Sh.hnil))
def w41_0 : Wk G (Int × Int) := (Wk.one [(.agg [.keep, .keep])] (Pk.fst (pk (Sh.fst (Sh.cons (Sh.agg (Sh.cons (Sh.int .i64) (Sh.fst (Sh.cons (Sh.int .i64) Sh.nil)))) Sh.nil)) Sh.hnil)))
def F41_0 (v : (Int × Int) × Int × Int) : Option (Int × Int) :=
  let x26 : Int := (IntKind.wrap .i64 (v.2.1 - v.1.1))
  let x27 : Int := (IntKind.wrap .i64 (v.2.2 - v.1.2))
  some (x26, x27)

noncomputable def k41_0 : List (Known Try.prog E) := []
noncomputable def L41_0 (n id : Nat) (st : St G) : Option (Int × Int) := none
set_option maxRecDepth 100000 in
theorem e41_0 (n : Nat) (v : (Int × Int) × Int × Int) : ev Try.prog E (oracle k41_0) Try.f41.ntmps (fun x => mem x []) (L41_0 n) (finA Try.prog E Try.f41.results.toList [] w41_0.alts) 4000 [.code (Try.f41.body.getD .skip)] (argSt (v41_0.enc v)) = F41_0 v := by kernel_rfl
theorem ok41_0 : FnOk Try.prog E 41 v41_0.enc F41_0 w41_0.enc :=
  fn_known (fn := Try.f41) (c := (Try.f41.body.getD .skip)) Try.func41 (by kernel_rfl) rfl envOk (oracle_ok k41_0) mixed v41_0 F41_0 w41_0 [] [] 4000 L41_0 (by kernel_rfl)
    (fun _ h => nomatch h) (fun v _ h => ⟨0, (e41_0 _ v).trans h⟩) (fun _ => by kernel_rfl) (fun _ => by kernel_rfl) (fun _ _ => by kernel_rfl)
/- math/bits.Mul64 -/
abbrev A67_0 : Type := Int × Int
abbrev R67_0 : Type := Int × Int
def v67_0 : Pk G (Int × Int) := (Pk.fst (pk (Sh.cons (Sh.int .u64) (Sh.fst (Sh.cons (Sh.int .u64) Sh.nil))) Sh.hnil))
def w67_0 : Wk G (Int × Int) := (Wk.one [.keep, .keep] (Pk.fst (pk (Sh.cons (Sh.int .u64) (Sh.fst (Sh.cons (Sh.int .u64) Sh.nil))) Sh.hnil)))
def F67_0 (v : Int × Int) : Option (Int × Int) :=
  let x66 : Int := (Go.bits .and .u64 v.1 (4294967295 : Int))
  let x67 : Int := (Int.fdiv v.1 (2 ^ 32))
  let x68 : Int := (Go.bits .and .u64 v.2 (4294967295 : Int))
  let x69 : Int := (Int.fdiv v.2 (2 ^ 32))
  let x70 : Int := (IntKind.wrap .u64 (x66 * x68))
  let x71 : Int := (IntKind.wrap .u64 (x67 * x68))
  let x72 : Int := (Int.fdiv x70 (2 ^ 32))
  let x73 : Int := (IntKind.wrap .u64 (x71 + x72))
  let x74 : Int := (Go.bits .and .u64 x73 (4294967295 : Int))
  let x75 : Int := (Int.fdiv x73 (2 ^ 32))
  let x76 : Int := (IntKind.wrap .u64 (x66 * x69))
  let x77 : Int := (IntKind.wrap .u64 (x74 + x76))
  let x78 : Int := (IntKind.wrap .u64 (x67 * x69))
  let x79 : Int := (IntKind.wrap .u64 (x78 + x75))
  let x80 : Int := (Int.fdiv x77 (2 ^ 32))
  let x81 : Int := (IntKind.wrap .u64 (x79 + x80))
  let x82 : Int := (IntKind.wrap .u64 (v.1 * v.2))
  some (x81, x82)

noncomputable def k67_0 : List (Known Try.prog E) := []
noncomputable def L67_0 (n id : Nat) (st : St G) : Option (Int × Int) := none
set_option maxRecDepth 100000 in
theorem e67_0 (n : Nat) (v : Int × Int) : ev Try.prog E (oracle k67_0) Try.f67.ntmps (fun x => mem x []) (L67_0 n) (finA Try.prog E Try.f67.results.toList [] w67_0.alts) 4000 [.code (Try.f67.body.getD .skip)] (argSt (v67_0.enc v)) = F67_0 v := by kernel_rfl
theorem ok67_0 : FnOk Try.prog E 67 v67_0.enc F67_0 w67_0.enc :=
  fn_known (fn := Try.f67) (c := (Try.f67.body.getD .skip)) Try.func67 (by kernel_rfl) rfl envOk (oracle_ok k67_0) mixed v67_0 F67_0 w67_0 [] [] 4000 L67_0 (by kernel_rfl)
    (fun _ h => nomatch h) (fun v _ h => ⟨0, (e67_0 _ v).trans h⟩) (fun _ => by kernel_rfl) (fun _ => by kernel_rfl) (fun _ _ => by kernel_rfl)
/- chicane/wide.Mul -/
abbrev A60_0 : Type := Int × Int
abbrev R60_0 : Type := Int × Int
def v60_0 : Pk G (Int × Int) := (Pk.fst (pk (Sh.cons (Sh.int .i64) (Sh.fst (Sh.cons (Sh.int .i64) Sh.nil))) Sh.hnil))
def w60_0 : Wk G (Int × Int) := (Wk.one [(.agg [.keep, .keep])] (Pk.fst (pk (Sh.fst (Sh.cons (Sh.agg (Sh.cons (Sh.int .i64) (Sh.fst (Sh.cons (Sh.int .u64) Sh.nil)))) Sh.nil)) Sh.hnil)))
def F60_0 (v : Int × Int) : Option (Int × Int) :=
  let x107 : Int := (IntKind.wrap .u64 v.1)
  let x108 : Int := (IntKind.wrap .u64 v.2)
  (F67_0 (x107, x108)).bind fun r109 =>
  bif (decide (v.1 < (0 : Int))) then
    let x110 : Int := (IntKind.wrap .u64 v.2)
    let x111 : Int := (IntKind.wrap .u64 (r109.1 - x110))
    bif (decide (v.2 < (0 : Int))) then
      let x112 : Int := (IntKind.wrap .u64 v.1)
      let x113 : Int := (IntKind.wrap .u64 (x111 - x112))
      let x114 : Int := (IntKind.wrap .i64 x113)
      some (x114, r109.2)
    else
      let x115 : Int := (IntKind.wrap .i64 x111)
      some (x115, r109.2)
  else
    bif (decide (v.2 < (0 : Int))) then
      let x116 : Int := (IntKind.wrap .u64 v.1)
      let x117 : Int := (IntKind.wrap .u64 (r109.1 - x116))
      let x118 : Int := (IntKind.wrap .i64 x117)
      some (x118, r109.2)
    else
      let x119 : Int := (IntKind.wrap .i64 r109.1)
      some (x119, r109.2)

noncomputable def k60_0 : List (Known Try.prog E) := [Known.of envOk [1, 1] [.keep, .keep] v67_0 F67_0 w67_0 ok67_0]
noncomputable def L60_0 (n id : Nat) (st : St G) : Option (Int × Int) := none
set_option maxRecDepth 100000 in
theorem e60_0 (n : Nat) (v : Int × Int) : ev Try.prog E (oracle k60_0) Try.f60.ntmps (fun x => mem x []) (L60_0 n) (finA Try.prog E Try.f60.results.toList [] w60_0.alts) 4000 [.code (Try.f60.body.getD .skip)] (argSt (v60_0.enc v)) = F60_0 v := by kernel_rfl
theorem ok60_0 : FnOk Try.prog E 60 v60_0.enc F60_0 w60_0.enc :=
  fn_known (fn := Try.f60) (c := (Try.f60.body.getD .skip)) Try.func60 (by kernel_rfl) rfl envOk (oracle_ok k60_0) mixed v60_0 F60_0 w60_0 [] [] 4000 L60_0 (by kernel_rfl)
    (fun _ h => nomatch h) (fun v _ h => ⟨0, (e60_0 _ v).trans h⟩) (fun _ => by kernel_rfl) (fun _ => by kernel_rfl) (fun _ _ => by kernel_rfl)
/- math/bits.Sub64 -/
abbrev A46_x : Type := Int × Int × Int
abbrev R46_x : Type := Int × Int
def v46_x : Pk G (Int × Int × Int) := p3u
def w46_x : Wk G (Int × Int) := Wk.one [.keep, .keep] p2u
def F46_x (v : Int × Int × Int) : Option (Int × Int) := sub64F v
theorem ok46_x : FnOk Try.prog E 46 v46_x.enc F46_x w46_x.enc := sub64_known Try.func46 (by kernel_rfl) (by kernel_rfl) (by kernel_rfl) (by kernel_rfl)
/- chicane/wide.Neg -/
abbrev A47_0 : Type := Int × Int
abbrev R47_0 : Type := (Int × Int) × Bool
def v47_0 : Pk G (Int × Int) := (Pk.fst (pk (Sh.fst (Sh.cons (Sh.agg (Sh.cons (Sh.int .i64) (Sh.fst (Sh.cons (Sh.int .u64) Sh.nil)))) Sh.nil)) Sh.hnil))
def w47_0 : Wk G ((Int × Int) × Bool) := (Wk.one [(.agg [.keep, .keep]), .keep] (Pk.fst (pk (Sh.cons (Sh.agg (Sh.cons (Sh.int .i64) (Sh.fst (Sh.cons (Sh.int .u64) Sh.nil)))) (Sh.fst (Sh.cons Sh.bool Sh.nil))) Sh.hnil)))
def F47_0 (v : Int × Int) : Option ((Int × Int) × Bool) :=
  (F46_x ((0 : Int), (v.2, (0 : Int)))).bind fun r134 =>
  let x135 : Int := (IntKind.wrap .u64 v.1)
  (F46_x ((0 : Int), (x135, r134.2))).bind fun r136 =>
  bif (decide (v.1 < (0 : Int))) then
    let x137 : Int := (IntKind.wrap .i64 r136.1)
    bif (decide (x137 < (0 : Int))) then
      some (((0 : Int), (0 : Int)), false)
    else
      let x138 : Int := (IntKind.wrap .i64 r136.1)
      some ((x138, r134.1), true)
  else
    let x139 : Int := (IntKind.wrap .i64 r136.1)
    some ((x139, r134.1), true)

noncomputable def k47_0 : List (Known Try.prog E) := [Known.of envOk [1, 1, 1] [.keep, .keep, .keep] v46_x F46_x w46_x ok46_x]
noncomputable def L47_0 (n id : Nat) (st : St G) : Option ((Int × Int) × Bool) := none
set_option maxRecDepth 100000 in
theorem e47_0 (n : Nat) (v : Int × Int) : ev Try.prog E (oracle k47_0) Try.f47.ntmps (fun x => mem x []) (L47_0 n) (finA Try.prog E Try.f47.results.toList [] w47_0.alts) 4000 [.code (Try.f47.body.getD .skip)] (argSt (v47_0.enc v)) = F47_0 v := by kernel_rfl
theorem ok47_0 : FnOk Try.prog E 47 v47_0.enc F47_0 w47_0.enc :=
  fn_known (fn := Try.f47) (c := (Try.f47.body.getD .skip)) Try.func47 (by kernel_rfl) rfl envOk (oracle_ok k47_0) mixed v47_0 F47_0 w47_0 [] [] 4000 L47_0 (by kernel_rfl)
    (fun _ h => nomatch h) (fun v _ h => ⟨0, (e47_0 _ v).trans h⟩) (fun _ => by kernel_rfl) (fun _ => by kernel_rfl) (fun _ _ => by kernel_rfl)
/- math/bits.Add64 -/
abbrev A64_x : Type := Int × Int × Int
abbrev R64_x : Type := Int × Int
def v64_x : Pk G (Int × Int × Int) := p3u
def w64_x : Wk G (Int × Int) := Wk.one [.keep, .keep] p2u
def F64_x (v : Int × Int × Int) : Option (Int × Int) := add64F v
theorem ok64_x : FnOk Try.prog E 64 v64_x.enc F64_x w64_x.enc := add64_known Try.func64 (by kernel_rfl) (by kernel_rfl) (by kernel_rfl) (by kernel_rfl)
/- chicane/wide.Add -/
abbrev A48_0 : Type := (Int × Int) × Int × Int
abbrev R48_0 : Type := (Int × Int) × Bool
def v48_0 : Pk G ((Int × Int) × Int × Int) := (Pk.fst (pk (Sh.cons (Sh.agg (Sh.cons (Sh.int .i64) (Sh.fst (Sh.cons (Sh.int .u64) Sh.nil)))) (Sh.fst (Sh.cons (Sh.agg (Sh.cons (Sh.int .i64) (Sh.fst (Sh.cons (Sh.int .u64) Sh.nil)))) Sh.nil))) Sh.hnil))
def w48_0 : Wk G ((Int × Int) × Bool) := (Wk.one [(.agg [.keep, .keep]), .keep] (Pk.fst (pk (Sh.cons (Sh.agg (Sh.cons (Sh.int .i64) (Sh.fst (Sh.cons (Sh.int .u64) Sh.nil)))) (Sh.fst (Sh.cons Sh.bool Sh.nil))) Sh.hnil)))
def F48_0 (v : (Int × Int) × Int × Int) : Option ((Int × Int) × Bool) :=
  (F64_x (v.1.2, (v.2.2, (0 : Int)))).bind fun r155 =>
  let x156 : Int := (IntKind.wrap .u64 v.1.1)
  let x157 : Int := (IntKind.wrap .u64 v.2.1)
  (F64_x (x156, (x157, r155.2))).bind fun r158 =>
  bif ((decide (v.1.1 < (0 : Int))) == (decide (v.2.1 < (0 : Int)))) then
    let x159 : Int := (IntKind.wrap .i64 r158.1)
    bif (!((decide (x159 < (0 : Int))) == (decide (v.1.1 < (0 : Int))))) then
      some (((0 : Int), (0 : Int)), false)
    else
      let x160 : Int := (IntKind.wrap .i64 r158.1)
      some ((x160, r155.1), true)
  else
    let x161 : Int := (IntKind.wrap .i64 r158.1)
    some ((x161, r155.1), true)

noncomputable def k48_0 : List (Known Try.prog E) := [Known.of envOk [1, 1, 1] [.keep, .keep, .keep] v64_x F64_x w64_x ok64_x]
noncomputable def L48_0 (n id : Nat) (st : St G) : Option ((Int × Int) × Bool) := none
set_option maxRecDepth 100000 in
theorem e48_0 (n : Nat) (v : (Int × Int) × Int × Int) : ev Try.prog E (oracle k48_0) Try.f48.ntmps (fun x => mem x []) (L48_0 n) (finA Try.prog E Try.f48.results.toList [] w48_0.alts) 4000 [.code (Try.f48.body.getD .skip)] (argSt (v48_0.enc v)) = F48_0 v := by kernel_rfl
theorem ok48_0 : FnOk Try.prog E 48 v48_0.enc F48_0 w48_0.enc :=
  fn_known (fn := Try.f48) (c := (Try.f48.body.getD .skip)) Try.func48 (by kernel_rfl) rfl envOk (oracle_ok k48_0) mixed v48_0 F48_0 w48_0 [] [] 4000 L48_0 (by kernel_rfl)
    (fun _ h => nomatch h) (fun v _ h => ⟨0, (e48_0 _ v).trans h⟩) (fun _ => by kernel_rfl) (fun _ => by kernel_rfl) (fun _ _ => by kernel_rfl)
/- chicane/plane.less -/
abbrev A27_0 : Type := (Int × Int) × Int × Int
abbrev R27_0 : Type := Int × Int
def v27_0 : Pk G ((Int × Int) × Int × Int) := (Pk.fst (pk (Sh.cons (Sh.agg (Sh.cons (Sh.int .i64) (Sh.fst (Sh.cons (Sh.int .u64) Sh.nil)))) (Sh.fst (Sh.cons (Sh.agg (Sh.cons (Sh.int .i64) (Sh.fst (Sh.cons (Sh.int .u64) Sh.nil)))) Sh.nil))) Sh.hnil))
def w27_0 : Wk G (Int × Int) := (Wk.one [(.agg [.keep, .keep])] (Pk.fst (pk (Sh.fst (Sh.cons (Sh.agg (Sh.cons (Sh.int .i64) (Sh.fst (Sh.cons (Sh.int .u64) Sh.nil)))) Sh.nil)) Sh.hnil)))
def F27_0 (v : (Int × Int) × Int × Int) : Option (Int × Int) :=
  (F47_0 v.2).bind fun r165 =>
  (F48_0 (v.1, r165.1)).bind fun r166 =>
  some (r166.1)

noncomputable def k27_0 : List (Known Try.prog E) := [Known.of envOk [9] [(.agg [.keep, .keep])] v47_0 F47_0 w47_0 ok47_0, Known.of envOk [9, 9] [(.agg [.keep, .keep]), (.agg [.keep, .keep])] v48_0 F48_0 w48_0 ok48_0]
noncomputable def L27_0 (n id : Nat) (st : St G) : Option (Int × Int) := none
set_option maxRecDepth 100000 in
theorem e27_0 (n : Nat) (v : (Int × Int) × Int × Int) : ev Try.prog E (oracle k27_0) Try.f27.ntmps (fun x => mem x []) (L27_0 n) (finA Try.prog E Try.f27.results.toList [] w27_0.alts) 4000 [.code (Try.f27.body.getD .skip)] (argSt (v27_0.enc v)) = F27_0 v := by kernel_rfl
theorem ok27_0 : FnOk Try.prog E 27 v27_0.enc F27_0 w27_0.enc :=
  fn_known (fn := Try.f27) (c := (Try.f27.body.getD .skip)) Try.func27 (by kernel_rfl) rfl envOk (oracle_ok k27_0) mixed v27_0 F27_0 w27_0 [] [] 4000 L27_0 (by kernel_rfl)
    (fun _ h => nomatch h) (fun v _ h => ⟨0, (e27_0 _ v).trans h⟩) (fun _ => by kernel_rfl) (fun _ => by kernel_rfl) (fun _ _ => by kernel_rfl)
/- (chicane/plane.way).cross -/
abbrev A42_0 : Type := (Int × Int) × Int × Int
abbrev R42_0 : Type := Int × Int
def v42_0 : Pk G ((Int × Int) × Int × Int) := (Pk.fst (pk (Sh.cons (Sh.agg (Sh.cons (Sh.int .i64) (Sh.fst (Sh.cons (Sh.int .i64) Sh.nil)))) (Sh.fst (Sh.cons (Sh.agg (Sh.cons (Sh.int .i64) (Sh.fst (Sh.cons (Sh.int .i64) Sh.nil)))) Sh.nil))) Sh.hnil))
def w42_0 : Wk G (Int × Int) := (Wk.one [(.agg [.keep, .keep])] (Pk.fst (pk (Sh.fst (Sh.cons (Sh.agg (Sh.cons (Sh.int .i64) (Sh.fst (Sh.cons (Sh.int .u64) Sh.nil)))) Sh.nil)) Sh.hnil)))
def F42_0 (v : (Int × Int) × Int × Int) : Option (Int × Int) :=
  (F60_0 (v.1.1, v.2.2)).bind fun r171 =>
  (F60_0 (v.1.2, v.2.1)).bind fun r172 =>
  (F27_0 (r171, r172)).bind fun r173 =>
  some (r173)

noncomputable def k42_0 : List (Known Try.prog E) := [Known.of envOk [1, 1] [.keep, .keep] v60_0 F60_0 w60_0 ok60_0, Known.of envOk [9, 9] [(.agg [.keep, .keep]), (.agg [.keep, .keep])] v27_0 F27_0 w27_0 ok27_0]
noncomputable def L42_0 (n id : Nat) (st : St G) : Option (Int × Int) := none
set_option maxRecDepth 100000 in
theorem e42_0 (n : Nat) (v : (Int × Int) × Int × Int) : ev Try.prog E (oracle k42_0) Try.f42.ntmps (fun x => mem x []) (L42_0 n) (finA Try.prog E Try.f42.results.toList [] w42_0.alts) 4000 [.code (Try.f42.body.getD .skip)] (argSt (v42_0.enc v)) = F42_0 v := by kernel_rfl
theorem ok42_0 : FnOk Try.prog E 42 v42_0.enc F42_0 w42_0.enc :=
  fn_known (fn := Try.f42) (c := (Try.f42.body.getD .skip)) Try.func42 (by kernel_rfl) rfl envOk (oracle_ok k42_0) mixed v42_0 F42_0 w42_0 [] [] 4000 L42_0 (by kernel_rfl)
    (fun _ h => nomatch h) (fun v _ h => ⟨0, (e42_0 _ v).trans h⟩) (fun _ => by kernel_rfl) (fun _ => by kernel_rfl) (fun _ _ => by kernel_rfl)
/- chicane/plane.area -/
abbrev A24_0 : Type := (Int × Int) × (Int × Int) × Int × Int
abbrev R24_0 : Type := Int × Int
def v24_0 : Pk G ((Int × Int) × (Int × Int) × Int × Int) := (Pk.fst (pk (Sh.cons (Sh.agg (Sh.cons (Sh.int .i64) (Sh.fst (Sh.cons (Sh.int .i64) Sh.nil)))) (Sh.cons (Sh.agg (Sh.cons (Sh.int .i64) (Sh.fst (Sh.cons (Sh.int .i64) Sh.nil)))) (Sh.fst (Sh.cons (Sh.agg (Sh.cons (Sh.int .i64) (Sh.fst (Sh.cons (Sh.int .i64) Sh.nil)))) Sh.nil)))) Sh.hnil))
def w24_0 : Wk G (Int × Int) := (Wk.one [(.agg [.keep, .keep])] (Pk.fst (pk (Sh.fst (Sh.cons (Sh.agg (Sh.cons (Sh.int .i64) (Sh.fst (Sh.cons (Sh.int .u64) Sh.nil)))) Sh.nil)) Sh.hnil)))
def F24_0 (v : (Int × Int) × (Int × Int) × Int × Int) : Option (Int × Int) :=
  (F41_0 (v.1, v.2.1)).bind fun r178 =>
  (F41_0 (v.1, v.2.2)).bind fun r179 =>
  (F42_0 (r178, r179)).bind fun r180 =>
  some (r180)

noncomputable def k24_0 : List (Known Try.prog E) := [Known.of envOk [9, 9] [(.agg [.keep, .keep]), (.agg [.keep, .keep])] v41_0 F41_0 w41_0 ok41_0, Known.of envOk [9, 9] [(.agg [.keep, .keep]), (.agg [.keep, .keep])] v42_0 F42_0 w42_0 ok42_0]
noncomputable def L24_0 (n id : Nat) (st : St G) : Option (Int × Int) := none
set_option maxRecDepth 100000 in
theorem e24_0 (n : Nat) (v : (Int × Int) × (Int × Int) × Int × Int) : ev Try.prog E (oracle k24_0) Try.f24.ntmps (fun x => mem x []) (L24_0 n) (finA Try.prog E Try.f24.results.toList [] w24_0.alts) 4000 [.code (Try.f24.body.getD .skip)] (argSt (v24_0.enc v)) = F24_0 v := by kernel_rfl
theorem ok24_0 : FnOk Try.prog E 24 v24_0.enc F24_0 w24_0.enc :=
  fn_known (fn := Try.f24) (c := (Try.f24.body.getD .skip)) Try.func24 (by kernel_rfl) rfl envOk (oracle_ok k24_0) mixed v24_0 F24_0 w24_0 [] [] 4000 L24_0 (by kernel_rfl)
    (fun _ h => nomatch h) (fun v _ h => ⟨0, (e24_0 _ v).trans h⟩) (fun _ => by kernel_rfl) (fun _ => by kernel_rfl) (fun _ _ => by kernel_rfl)
/- cmp.isNaN[int64] -/
abbrev A61_0 : Type := Int
abbrev R61_0 : Type := Bool
def v61_0 : Pk G Int := (Pk.fst (pk (Sh.fst (Sh.cons (Sh.int .i64) Sh.nil)) Sh.hnil))
def w61_0 : Wk G Bool := (Wk.one [.keep] (Pk.fst (pk (Sh.fst (Sh.cons Sh.bool Sh.nil)) Sh.hnil)))
def F61_0 (v : Int) : Option Bool :=
  some (v != v)

noncomputable def k61_0 : List (Known Try.prog E) := []
noncomputable def L61_0 (n id : Nat) (st : St G) : Option Bool := none
set_option maxRecDepth 100000 in
theorem e61_0 (n : Nat) (v : Int) : ev Try.prog E (oracle k61_0) Try.f61.ntmps (fun x => mem x []) (L61_0 n) (finA Try.prog E Try.f61.results.toList [] w61_0.alts) 4000 [.code (Try.f61.body.getD .skip)] (argSt (v61_0.enc v)) = F61_0 v := by kernel_rfl
theorem ok61_0 : FnOk Try.prog E 61 v61_0.enc F61_0 w61_0.enc :=
  fn_known (fn := Try.f61) (c := (Try.f61.body.getD .skip)) Try.func61 (by kernel_rfl) rfl envOk (oracle_ok k61_0) mixed v61_0 F61_0 w61_0 [] [] 4000 L61_0 (by kernel_rfl)
    (fun _ h => nomatch h) (fun v _ h => ⟨0, (e61_0 _ v).trans h⟩) (fun _ => by kernel_rfl) (fun _ => by kernel_rfl) (fun _ _ => by kernel_rfl)
/- cmp.Compare[int64] -/
abbrev A43_0 : Type := Int × Int
abbrev R43_0 : Type := Int
def v43_0 : Pk G (Int × Int) := (Pk.fst (pk (Sh.cons (Sh.int .i64) (Sh.fst (Sh.cons (Sh.int .i64) Sh.nil))) Sh.hnil))
def w43_0 : Wk G Int := (Wk.one [.keep] (Pk.fst (pk (Sh.fst (Sh.cons (Sh.int .i64) Sh.nil)) Sh.hnil)))
def F43_0 (v : Int × Int) : Option Int :=
  (F61_0 v.1).bind fun r188 =>
  (F61_0 v.2).bind fun r189 =>
  bif r188 then
    bif r189 then
      some (0 : Int)
    else
      some (-1 : Int)
  else
    bif r189 then
      some (1 : Int)
    else
      bif (decide (v.1 < v.2)) then
        some (-1 : Int)
      else
        bif (decide (v.1 > v.2)) then
          some (1 : Int)
        else
          some (0 : Int)

noncomputable def k43_0 : List (Known Try.prog E) := [Known.of envOk [1] [.keep] v61_0 F61_0 w61_0 ok61_0]
noncomputable def L43_0 (n id : Nat) (st : St G) : Option Int := none
set_option maxRecDepth 100000 in
theorem e43_0 (n : Nat) (v : Int × Int) : ev Try.prog E (oracle k43_0) Try.f43.ntmps (fun x => mem x []) (L43_0 n) (finA Try.prog E Try.f43.results.toList [] w43_0.alts) 4000 [.code (Try.f43.body.getD .skip)] (argSt (v43_0.enc v)) = F43_0 v := by kernel_rfl
theorem ok43_0 : FnOk Try.prog E 43 v43_0.enc F43_0 w43_0.enc :=
  fn_known (fn := Try.f43) (c := (Try.f43.body.getD .skip)) Try.func43 (by kernel_rfl) rfl envOk (oracle_ok k43_0) mixed v43_0 F43_0 w43_0 [] [] 4000 L43_0 (by kernel_rfl)
    (fun _ h => nomatch h) (fun v _ h => ⟨0, (e43_0 _ v).trans h⟩) (fun _ => by kernel_rfl) (fun _ => by kernel_rfl) (fun _ _ => by kernel_rfl)
/- chicane/wide.Sign -/
abbrev A25_0 : Type := Int × Int
abbrev R25_0 : Type := Int
def v25_0 : Pk G (Int × Int) := (Pk.fst (pk (Sh.fst (Sh.cons (Sh.agg (Sh.cons (Sh.int .i64) (Sh.fst (Sh.cons (Sh.int .u64) Sh.nil)))) Sh.nil)) Sh.hnil))
def w25_0 : Wk G Int := (Wk.one [.keep] (Pk.fst (pk (Sh.fst (Sh.cons (Sh.int .i64) Sh.nil)) Sh.hnil)))
def F25_0 (v : Int × Int) : Option Int :=
  let x195 : Bool := ((v.1 == (0 : Int)) && ((v.2 == (0 : Int)) && true))
  bif x195 then
    some (0 : Int)
  else
    (F43_0 (v.1, (0 : Int))).bind fun r196 =>
    let x197 : Int := (Go.bits .or .i64 r196 (1 : Int))
    some (x197)

noncomputable def k25_0 : List (Known Try.prog E) := [Known.of envOk [1, 1] [.keep, .keep] v43_0 F43_0 w43_0 ok43_0]
noncomputable def L25_0 (n id : Nat) (st : St G) : Option Int := none
set_option maxRecDepth 100000 in
theorem e25_0 (n : Nat) (v : Int × Int) : ev Try.prog E (oracle k25_0) Try.f25.ntmps (fun x => mem x []) (L25_0 n) (finA Try.prog E Try.f25.results.toList [] w25_0.alts) 4000 [.code (Try.f25.body.getD .skip)] (argSt (v25_0.enc v)) = F25_0 v := by kernel_rfl
theorem ok25_0 : FnOk Try.prog E 25 v25_0.enc F25_0 w25_0.enc :=
  fn_known (fn := Try.f25) (c := (Try.f25.body.getD .skip)) Try.func25 (by kernel_rfl) rfl envOk (oracle_ok k25_0) mixed v25_0 F25_0 w25_0 [] [] 4000 L25_0 (by kernel_rfl)
    (fun _ h => nomatch h) (fun v _ h => ⟨0, (e25_0 _ v).trans h⟩) (fun _ => by kernel_rfl) (fun _ => by kernel_rfl) (fun _ _ => by kernel_rfl)
/- chicane/plane.Side -/
abbrev A16_0 : Type := (Int × Int) × (Int × Int) × Int × Int
abbrev R16_0 : Type := Int
def v16_0 : Pk G ((Int × Int) × (Int × Int) × Int × Int) := (Pk.fst (pk (Sh.cons (Sh.agg (Sh.cons (Sh.int .i64) (Sh.fst (Sh.cons (Sh.int .i64) Sh.nil)))) (Sh.cons (Sh.agg (Sh.cons (Sh.int .i64) (Sh.fst (Sh.cons (Sh.int .i64) Sh.nil)))) (Sh.fst (Sh.cons (Sh.agg (Sh.cons (Sh.int .i64) (Sh.fst (Sh.cons (Sh.int .i64) Sh.nil)))) Sh.nil)))) Sh.hnil))
def w16_0 : Wk G Int := (Wk.one [.keep] (Pk.fst (pk (Sh.fst (Sh.cons (Sh.int .i64) Sh.nil)) Sh.hnil)))
def F16_0 (v : (Int × Int) × (Int × Int) × Int × Int) : Option Int :=
  (F23_0 ([v.1, v.2.1, v.2.2] : List (Int × Int))).bind fun r206 =>
  bif (!r206) then
    some (0 : Int)
  else
    (F24_0 v).bind fun r207 =>
    (F25_0 r207).bind fun r208 =>
    some (r208)

noncomputable def k16_0 : List (Known Try.prog E) := [Known.of envOk [7] [(.ros 25)] v23_0 F23_0 w23_0 ok23_0, Known.of envOk [9, 9, 9] [(.agg [.keep, .keep]), (.agg [.keep, .keep]), (.agg [.keep, .keep])] v24_0 F24_0 w24_0 ok24_0, Known.of envOk [9] [(.agg [.keep, .keep])] v25_0 F25_0 w25_0 ok25_0]
noncomputable def L16_0 (n id : Nat) (st : St G) : Option Int := none
set_option maxRecDepth 100000 in
theorem e16_0 (n : Nat) (v : (Int × Int) × (Int × Int) × Int × Int) : ev Try.prog E (oracle k16_0) Try.f16.ntmps (fun x => mem x []) (L16_0 n) (finA Try.prog E Try.f16.results.toList [] w16_0.alts) 4000 [.code (Try.f16.body.getD .skip)] (argSt (v16_0.enc v)) = F16_0 v := by kernel_rfl
theorem ok16_0 : FnOk Try.prog E 16 v16_0.enc F16_0 w16_0.enc :=
  fn_known (fn := Try.f16) (c := (Try.f16.body.getD .skip)) Try.func16 (by kernel_rfl) rfl envOk (oracle_ok k16_0) mixed v16_0 F16_0 w16_0 [] [] 4000 L16_0 (by kernel_rfl)
    (fun _ h => nomatch h) (fun v _ h => ⟨0, (e16_0 _ v).trans h⟩) (fun _ => by kernel_rfl) (fun _ => by kernel_rfl) (fun _ _ => by kernel_rfl)
/- cmp.isNaN[uint64] -/
abbrev A68_0 : Type := Int
abbrev R68_0 : Type := Bool
def v68_0 : Pk G Int := (Pk.fst (pk (Sh.fst (Sh.cons (Sh.int .u64) Sh.nil)) Sh.hnil))
def w68_0 : Wk G Bool := (Wk.one [.keep] (Pk.fst (pk (Sh.fst (Sh.cons Sh.bool Sh.nil)) Sh.hnil)))
def F68_0 (v : Int) : Option Bool :=
  some (v != v)

noncomputable def k68_0 : List (Known Try.prog E) := []
noncomputable def L68_0 (n id : Nat) (st : St G) : Option Bool := none
set_option maxRecDepth 100000 in
theorem e68_0 (n : Nat) (v : Int) : ev Try.prog E (oracle k68_0) Try.f68.ntmps (fun x => mem x []) (L68_0 n) (finA Try.prog E Try.f68.results.toList [] w68_0.alts) 4000 [.code (Try.f68.body.getD .skip)] (argSt (v68_0.enc v)) = F68_0 v := by kernel_rfl
theorem ok68_0 : FnOk Try.prog E 68 v68_0.enc F68_0 w68_0.enc :=
  fn_known (fn := Try.f68) (c := (Try.f68.body.getD .skip)) Try.func68 (by kernel_rfl) rfl envOk (oracle_ok k68_0) mixed v68_0 F68_0 w68_0 [] [] 4000 L68_0 (by kernel_rfl)
    (fun _ h => nomatch h) (fun v _ h => ⟨0, (e68_0 _ v).trans h⟩) (fun _ => by kernel_rfl) (fun _ => by kernel_rfl) (fun _ _ => by kernel_rfl)
/- cmp.Compare[uint64] -/
abbrev A63_0 : Type := Int × Int
abbrev R63_0 : Type := Int
def v63_0 : Pk G (Int × Int) := (Pk.fst (pk (Sh.cons (Sh.int .u64) (Sh.fst (Sh.cons (Sh.int .u64) Sh.nil))) Sh.hnil))
def w63_0 : Wk G Int := (Wk.one [.keep] (Pk.fst (pk (Sh.fst (Sh.cons (Sh.int .i64) Sh.nil)) Sh.hnil)))
def F63_0 (v : Int × Int) : Option Int :=
  (F68_0 v.1).bind fun r218 =>
  (F68_0 v.2).bind fun r219 =>
  bif r218 then
    bif r219 then
      some (0 : Int)
    else
      some (-1 : Int)
  else
    bif r219 then
      some (1 : Int)
    else
      bif (decide (v.1 < v.2)) then
        some (-1 : Int)
      else
        bif (decide (v.1 > v.2)) then
          some (1 : Int)
        else
          some (0 : Int)

noncomputable def k63_0 : List (Known Try.prog E) := [Known.of envOk [1] [.keep] v68_0 F68_0 w68_0 ok68_0]
noncomputable def L63_0 (n id : Nat) (st : St G) : Option Int := none
set_option maxRecDepth 100000 in
theorem e63_0 (n : Nat) (v : Int × Int) : ev Try.prog E (oracle k63_0) Try.f63.ntmps (fun x => mem x []) (L63_0 n) (finA Try.prog E Try.f63.results.toList [] w63_0.alts) 4000 [.code (Try.f63.body.getD .skip)] (argSt (v63_0.enc v)) = F63_0 v := by kernel_rfl
theorem ok63_0 : FnOk Try.prog E 63 v63_0.enc F63_0 w63_0.enc :=
  fn_known (fn := Try.f63) (c := (Try.f63.body.getD .skip)) Try.func63 (by kernel_rfl) rfl envOk (oracle_ok k63_0) mixed v63_0 F63_0 w63_0 [] [] 4000 L63_0 (by kernel_rfl)
    (fun _ h => nomatch h) (fun v _ h => ⟨0, (e63_0 _ v).trans h⟩) (fun _ => by kernel_rfl) (fun _ => by kernel_rfl) (fun _ _ => by kernel_rfl)
/- cmp.Or[int] -/
abbrev A62_0 : Type := List Int
abbrev R62_0 : Type := Int
def v62_0 : Pk G (List Int) := (Pk.fst (pk (Sh.fst (Sh.cons (Sh.ros 3) Sh.nil)) Sh.hnil))
def w62_0 : Wk G Int := (Wk.one [.keep] (Pk.fst (pk (Sh.fst (Sh.cons (Sh.int .i64) Sh.nil)) Sh.hnil)))
def c62_0_3 : Pk G (Int × List Int × Int × Int) := (Pk.fst (pk (Sh.cons (Sh.int .i64) (Sh.cons (Sh.ros 3) (Sh.cons (Sh.int .i64) (Sh.fst (Sh.cons (Sh.int .i64) Sh.nil))))) Sh.hnil))
def B62_0_3 (K : ((Int × List Int × Int × Int) → Option Int)) (v : Int × List Int × Int × Int) : Option Int :=
  bif (decide (v.2.2.2 < v.2.2.1)) then
    (rdx v.2.1 v.2.2.2).bind fun (x227 : Int) =>
    bif (x227 != v.1) then
      some (x227)
    else
      let x228 : Int := (IntKind.wrap .i64 (v.2.2.2 + (1 : Int)))
      K (v.1, (v.2.1, (v.2.2.1, x228)))
  else
    some (v.1)

def E62_0 (K : ((Int × List Int × Int × Int) → Option Int)) (v : List Int) : Option Int :=
  K ((0 : Int), (v, (((v).length : Int), (0 : Int))))

def K62_0 : Nat → ((Int × List Int × Int × Int) → Option Int)
  | 0 => (fun _ => none)
  | n + 1 => (B62_0_3 (K62_0 n))
def fuel62_0 (v : List Int) : Nat := 1000
def F62_0 (v : List Int) : Option Int := E62_0 (K62_0 (fuel62_0 v)) v
noncomputable def k62_0 : List (Known Try.prog E) := []
def s62_0_3 : List (Nat × Pat) := [(3, .keep), (6, (.ros 3)), (7, .keep), (8, .keep)]
noncomputable def L62_0 (n id : Nat) (st : St G) : Option Int := match Nat.beq id 3 with | true => cutK Try.prog s62_0_3 [] c62_0_3.dec (K62_0 n) st | false => none
set_option maxRecDepth 100000 in
theorem e62_0 (n : Nat) (v : List Int) : ev Try.prog E (oracle k62_0) Try.f62.ntmps (fun x => mem x [3]) (L62_0 n) (finA Try.prog E Try.f62.results.toList [] w62_0.alts) 4000 [.code (Try.f62.body.getD .skip)] (argSt (v62_0.enc v)) = E62_0 (K62_0 n) v := by kernel_rfl
set_option maxRecDepth 100000 in
theorem b62_0_3 (n : Nat) (v : Int × List Int × Int × Int) : evCut Try.prog E (oracle k62_0) Try.f62.ntmps (fun x => mem x [3]) (L62_0 n) (finA Try.prog E Try.f62.results.toList [] w62_0.alts) 4000 (todoAt (Try.f62.body.getD .skip) 3) (cutSt s62_0_3 (c62_0_3.enc v)) = B62_0_3 (K62_0 n) v := by kernel_rfl
theorem ok62_0 : FnOk Try.prog E 62 v62_0.enc F62_0 w62_0.enc :=
  fn_known (fn := Try.f62) (c := (Try.f62.body.getD .skip)) Try.func62 (by kernel_rfl) rfl envOk (oracle_ok k62_0) mixed v62_0 F62_0 w62_0 [] [3] 4000 L62_0 (by kernel_rfl)
    (List.forall_mem_cons.2 ⟨⟨_, s62_0_3, c62_0_3.dec, c62_0_3.enc, fun n => (K62_0 n), c62_0_3.ok, fun _ _ => rfl, fun _ => rfl, fun n v _ h => (b62_0_3 n v).trans h⟩, fun _ h => (nomatch h)⟩) (fun v _ h => ⟨fuel62_0 v, (e62_0 _ v).trans h⟩) (fun _ => by kernel_rfl) (fun _ => by kernel_rfl) (fun _ _ => by kernel_rfl)
/- chicane/wide.Cmp -/
abbrev A44_0 : Type := (Int × Int) × Int × Int
abbrev R44_0 : Type := Int
def v44_0 : Pk G ((Int × Int) × Int × Int) := (Pk.fst (pk (Sh.cons (Sh.agg (Sh.cons (Sh.int .i64) (Sh.fst (Sh.cons (Sh.int .u64) Sh.nil)))) (Sh.fst (Sh.cons (Sh.agg (Sh.cons (Sh.int .i64) (Sh.fst (Sh.cons (Sh.int .u64) Sh.nil)))) Sh.nil))) Sh.hnil))
def w44_0 : Wk G Int := (Wk.one [.keep] (Pk.fst (pk (Sh.fst (Sh.cons (Sh.int .i64) Sh.nil)) Sh.hnil)))
def F44_0 (v : (Int × Int) × Int × Int) : Option Int :=
  (F43_0 (v.1.1, v.2.1)).bind fun r233 =>
  (F63_0 (v.1.2, v.2.2)).bind fun r234 =>
  (F62_0 ([r233, r234] : List Int)).bind fun r235 =>
  some (r235)

noncomputable def k44_0 : List (Known Try.prog E) := [Known.of envOk [1, 1] [.keep, .keep] v43_0 F43_0 w43_0 ok43_0, Known.of envOk [1, 1] [.keep, .keep] v63_0 F63_0 w63_0 ok63_0, Known.of envOk [7] [(.ros 3)] v62_0 F62_0 w62_0 ok62_0]
noncomputable def L44_0 (n id : Nat) (st : St G) : Option Int := none
set_option maxRecDepth 100000 in
theorem e44_0 (n : Nat) (v : (Int × Int) × Int × Int) : ev Try.prog E (oracle k44_0) Try.f44.ntmps (fun x => mem x []) (L44_0 n) (finA Try.prog E Try.f44.results.toList [] w44_0.alts) 4000 [.code (Try.f44.body.getD .skip)] (argSt (v44_0.enc v)) = F44_0 v := by kernel_rfl
theorem ok44_0 : FnOk Try.prog E 44 v44_0.enc F44_0 w44_0.enc :=
  fn_known (fn := Try.f44) (c := (Try.f44.body.getD .skip)) Try.func44 (by kernel_rfl) rfl envOk (oracle_ok k44_0) mixed v44_0 F44_0 w44_0 [] [] 4000 L44_0 (by kernel_rfl)
    (fun _ h => nomatch h) (fun v _ h => ⟨0, (e44_0 _ v).trans h⟩) (fun _ => by kernel_rfl) (fun _ => by kernel_rfl) (fun _ _ => by kernel_rfl)
/- (chicane/wide.size).below -/
abbrev A45_0 : Type := (Int × Int) × Int × Int
abbrev R45_0 : Type := Bool
def v45_0 : Pk G ((Int × Int) × Int × Int) := (Pk.fst (pk (Sh.cons (Sh.agg (Sh.cons (Sh.int .u64) (Sh.fst (Sh.cons (Sh.int .u64) Sh.nil)))) (Sh.fst (Sh.cons (Sh.agg (Sh.cons (Sh.int .u64) (Sh.fst (Sh.cons (Sh.int .u64) Sh.nil)))) Sh.nil))) Sh.hnil))
def w45_0 : Wk G Bool := (Wk.one [.keep] (Pk.fst (pk (Sh.fst (Sh.cons Sh.bool Sh.nil)) Sh.hnil)))
def F45_0 (v : (Int × Int) × Int × Int) : Option Bool :=
  bif (decide (v.1.1 < v.2.1)) then
    some (true)
  else
    bif (v.1.1 == v.2.1) then
      some (decide (v.1.2 < v.2.2))
    else
      some (false)

noncomputable def k45_0 : List (Known Try.prog E) := []
noncomputable def L45_0 (n id : Nat) (st : St G) : Option Bool := none
set_option maxRecDepth 100000 in
theorem e45_0 (n : Nat) (v : (Int × Int) × Int × Int) : ev Try.prog E (oracle k45_0) Try.f45.ntmps (fun x => mem x []) (L45_0 n) (finA Try.prog E Try.f45.results.toList [] w45_0.alts) 4000 [.code (Try.f45.body.getD .skip)] (argSt (v45_0.enc v)) = F45_0 v := by kernel_rfl
theorem ok45_0 : FnOk Try.prog E 45 v45_0.enc F45_0 w45_0.enc :=
  fn_known (fn := Try.f45) (c := (Try.f45.body.getD .skip)) Try.func45 (by kernel_rfl) rfl envOk (oracle_ok k45_0) mixed v45_0 F45_0 w45_0 [] [] 4000 L45_0 (by kernel_rfl)
    (fun _ h => nomatch h) (fun v _ h => ⟨0, (e45_0 _ v).trans h⟩) (fun _ => by kernel_rfl) (fun _ => by kernel_rfl) (fun _ _ => by kernel_rfl)
/- chicane/wide.Part -/
abbrev A26_0 : Type := (Int × Int) × Int × Int
abbrev R26_0 : Type := Int
def v26_0 : Pk G ((Int × Int) × Int × Int) := (Pk.fst (pk (Sh.cons (Sh.agg (Sh.cons (Sh.int .i64) (Sh.fst (Sh.cons (Sh.int .u64) Sh.nil)))) (Sh.fst (Sh.cons (Sh.agg (Sh.cons (Sh.int .i64) (Sh.fst (Sh.cons (Sh.int .u64) Sh.nil)))) Sh.nil))) Sh.hnil))
def w26_0 : Wk G Int := (Wk.one [.keep] (Pk.fst (pk (Sh.fst (Sh.cons (Sh.int .u32) Sh.nil)) Sh.hnil)))
def c26_0_6 : Pk G ((Int × Int) × (Int × Int) × Int × Int) := (pk (Sh.snd (Sh.cons (Sh.ptr 0 0) (Sh.snd (Sh.cons (Sh.ptr 1 0) (Sh.cons (Sh.int .u32) (Sh.fst (Sh.cons (Sh.int .i64) Sh.nil))))))) (Sh.hfix 1 102 (Sh.cons (Sh.int .u64) (Sh.fst (Sh.cons (Sh.int .u64) Sh.nil))) (Sh.fst (Sh.hfix 0 102 (Sh.cons (Sh.int .u64) (Sh.fst (Sh.cons (Sh.int .u64) Sh.nil))) Sh.hnil))))
def B26_0_6 (K : (((Int × Int) × (Int × Int) × Int × Int) → Option Int)) (v : (Int × Int) × (Int × Int) × Int × Int) : Option Int :=
  bif (decide (v.1.2 < (32 : Int))) then
    let x269 : Int := (IntKind.wrap .u64 (v.2.2.1 * 2 ^ 1))
    let x270 : Int := (Int.fdiv v.2.2.2 (2 ^ 63))
    let x271 : Int := (Go.bits .or .u64 x269 x270)
    let x272 : Int := (IntKind.wrap .u64 (v.2.2.2 * 2 ^ 1))
    let x273 : Int := (IntKind.wrap .u32 (v.1.1 * 2 ^ 1))
    (F45_0 ((x271, x272), v.2.1)).bind fun r274 =>
    bif (!r274) then
      (F46_x (x272, (v.2.1.2, (0 : Int)))).bind fun r275 =>
      (F46_x (x271, (v.2.1.1, r275.2))).bind fun r276 =>
      let x277 : Int := (Go.bits .or .u32 x273 (1 : Int))
      let x278 : Int := (IntKind.wrap .i64 (v.1.2 + (1 : Int)))
      K ((x277, x278), (v.2.1, (r276.1, r275.1)))
    else
      let x279 : Int := (IntKind.wrap .i64 (v.1.2 + (1 : Int)))
      K ((x273, x279), (v.2.1, (x271, x272)))
  else
    some (v.1.1)

def E26_0 (K : (((Int × Int) × (Int × Int) × Int × Int) → Option Int)) (v : (Int × Int) × Int × Int) : Option Int :=
  bif (decide (v.1.1 < (0 : Int))) then
    some (0 : Int)
  else
    (F44_0 v).bind fun r266 =>
    bif (decide (r266 ≥ (0 : Int))) then
      some (0 : Int)
    else
      let x267 : Int := (IntKind.wrap .u64 v.1.1)
      let x268 : Int := (IntKind.wrap .u64 v.2.1)
      K (((0 : Int), (0 : Int)), ((x268, v.2.2), (x267, v.1.2)))

def K26_0 : Nat → (((Int × Int) × (Int × Int) × Int × Int) → Option Int)
  | 0 => (fun _ => none)
  | n + 1 => (B26_0_6 (K26_0 n))
def fuel26_0 (v : (Int × Int) × Int × Int) : Nat := 1000
def F26_0 (v : (Int × Int) × Int × Int) : Option Int := E26_0 (K26_0 (fuel26_0 v)) v
noncomputable def k26_0 : List (Known Try.prog E) := [Known.of envOk [9, 9] [(.agg [.keep, .keep]), (.agg [.keep, .keep])] v44_0 F44_0 w44_0 ok44_0, Known.of envOk [9, 9] [(.agg [.keep, .keep]), (.agg [.keep, .keep])] v45_0 F45_0 w45_0 ok45_0, Known.of envOk [1, 1, 1] [.keep, .keep, .keep] v46_x F46_x w46_x ok46_x]
def s26_0_6 : List (Nat × Pat) := [(5, (.ptr 0 0 102 [.keep, .keep])), (6, (.ptr 1 0 102 [.keep, .keep])), (7, .keep), (33, .keep)]
noncomputable def L26_0 (n id : Nat) (st : St G) : Option Int := match Nat.beq id 6 with | true => cutK Try.prog s26_0_6 [] c26_0_6.dec (K26_0 n) st | false => none
set_option maxRecDepth 100000 in
theorem e26_0 (n : Nat) (v : (Int × Int) × Int × Int) : ev Try.prog E (oracle k26_0) Try.f26.ntmps (fun x => mem x [6]) (L26_0 n) (finA Try.prog E Try.f26.results.toList [] w26_0.alts) 4000 [.code (Try.f26.body.getD .skip)] (argSt (v26_0.enc v)) = E26_0 (K26_0 n) v := by kernel_rfl
set_option maxRecDepth 100000 in
theorem b26_0_6 (n : Nat) (v : (Int × Int) × (Int × Int) × Int × Int) : evCut Try.prog E (oracle k26_0) Try.f26.ntmps (fun x => mem x [6]) (L26_0 n) (finA Try.prog E Try.f26.results.toList [] w26_0.alts) 4000 (todoAt (Try.f26.body.getD .skip) 6) (cutSt s26_0_6 (c26_0_6.enc v)) = B26_0_6 (K26_0 n) v := by kernel_rfl
theorem ok26_0 : FnOk Try.prog E 26 v26_0.enc F26_0 w26_0.enc :=
  fn_known (fn := Try.f26) (c := (Try.f26.body.getD .skip)) Try.func26 (by kernel_rfl) rfl envOk (oracle_ok k26_0) mixed v26_0 F26_0 w26_0 [] [6] 4000 L26_0 (by kernel_rfl)
    (List.forall_mem_cons.2 ⟨⟨_, s26_0_6, c26_0_6.dec, c26_0_6.enc, fun n => (K26_0 n), c26_0_6.ok, fun _ _ => rfl, fun _ => rfl, fun n v _ h => (b26_0_6 n v).trans h⟩, fun _ h => (nomatch h)⟩) (fun v _ h => ⟨fuel26_0 v, (e26_0 _ v).trans h⟩) (fun _ => by kernel_rfl) (fun _ => by kernel_rfl) (fun _ _ => by kernel_rfl)
/- chicane/plane.Crosses -/
abbrev A15_0 : Type := (Int × Int) × (Int × Int) × (Int × Int) × Int × Int
abbrev R15_0 : Type := Int × Bool
def v15_0 : Pk G ((Int × Int) × (Int × Int) × (Int × Int) × Int × Int) := (Pk.fst (pk (Sh.cons (Sh.agg (Sh.cons (Sh.int .i64) (Sh.fst (Sh.cons (Sh.int .i64) Sh.nil)))) (Sh.cons (Sh.agg (Sh.cons (Sh.int .i64) (Sh.fst (Sh.cons (Sh.int .i64) Sh.nil)))) (Sh.cons (Sh.agg (Sh.cons (Sh.int .i64) (Sh.fst (Sh.cons (Sh.int .i64) Sh.nil)))) (Sh.fst (Sh.cons (Sh.agg (Sh.cons (Sh.int .i64) (Sh.fst (Sh.cons (Sh.int .i64) Sh.nil)))) Sh.nil))))) Sh.hnil))
def w15_0 : Wk G (Int × Bool) := (Wk.one [.keep, .keep] (Pk.fst (pk (Sh.cons (Sh.int .u32) (Sh.fst (Sh.cons Sh.bool Sh.nil))) Sh.hnil)))
def F15_0 (v : (Int × Int) × (Int × Int) × (Int × Int) × Int × Int) : Option (Int × Bool) :=
  (F23_0 ([v.1, v.2.1, v.2.2.1, v.2.2.2] : List (Int × Int))).bind fun r291 =>
  bif (!r291) then
    some ((0 : Int), false)
  else
    (F24_0 (v.1, (v.2.1, v.2.2.1))).bind fun r292 =>
    (F24_0 (v.1, (v.2.1, v.2.2.2))).bind fun r293 =>
    (F25_0 r292).bind fun r294 =>
    bif (decide (r294 > (0 : Int))) then
      some ((0 : Int), false)
    else
      (F25_0 r293).bind fun r295 =>
      bif (decide (r295 ≤ (0 : Int))) then
        some ((0 : Int), false)
      else
        (F16_0 (v.2.2.1, (v.2.2.2, v.1))).bind fun r296 =>
        bif (decide (r296 < (0 : Int))) then
          some ((0 : Int), false)
        else
          (F16_0 (v.2.2.1, (v.2.2.2, v.2.1))).bind fun r297 =>
          bif (decide (r297 ≥ (0 : Int))) then
            some ((0 : Int), false)
          else
            (F27_0 (((0 : Int), (0 : Int)), r292)).bind fun r298 =>
            (F27_0 (r293, r292)).bind fun r299 =>
            (F26_0 (r298, r299)).bind fun r300 =>
            some (r300, true)

noncomputable def k15_0 : List (Known Try.prog E) := [Known.of envOk [7] [(.ros 25)] v23_0 F23_0 w23_0 ok23_0, Known.of envOk [9, 9, 9] [(.agg [.keep, .keep]), (.agg [.keep, .keep]), (.agg [.keep, .keep])] v24_0 F24_0 w24_0 ok24_0, Known.of envOk [9] [(.agg [.keep, .keep])] v25_0 F25_0 w25_0 ok25_0, Known.of envOk [9, 9, 9] [(.agg [.keep, .keep]), (.agg [.keep, .keep]), (.agg [.keep, .keep])] v16_0 F16_0 w16_0 ok16_0, Known.of envOk [9, 9] [(.agg [.keep, .keep]), (.agg [.keep, .keep])] v27_0 F27_0 w27_0 ok27_0, Known.of envOk [9, 9] [(.agg [.keep, .keep]), (.agg [.keep, .keep])] v26_0 F26_0 w26_0 ok26_0]
noncomputable def L15_0 (n id : Nat) (st : St G) : Option (Int × Bool) := none
set_option maxRecDepth 100000 in
theorem e15_0 (n : Nat) (v : (Int × Int) × (Int × Int) × (Int × Int) × Int × Int) : ev Try.prog E (oracle k15_0) Try.f15.ntmps (fun x => mem x []) (L15_0 n) (finA Try.prog E Try.f15.results.toList [] w15_0.alts) 4000 [.code (Try.f15.body.getD .skip)] (argSt (v15_0.enc v)) = F15_0 v := by kernel_rfl
theorem ok15_0 : FnOk Try.prog E 15 v15_0.enc F15_0 w15_0.enc :=
  fn_known (fn := Try.f15) (c := (Try.f15.body.getD .skip)) Try.func15 (by kernel_rfl) rfl envOk (oracle_ok k15_0) mixed v15_0 F15_0 w15_0 [] [] 4000 L15_0 (by kernel_rfl)
    (fun _ h => nomatch h) (fun v _ h => ⟨0, (e15_0 _ v).trans h⟩) (fun _ => by kernel_rfl) (fun _ => by kernel_rfl) (fun _ _ => by kernel_rfl)
/- chicane/gate.Passes -/
abbrev A10_0 : Type := (List (Int × Int × Int × Int × Bool)) × Int × (Int × Int) × Int × Int
abbrev R10_0 : Type := List (Int × Int × Bool)
def v10_0 : Pk G ((List (Int × Int × Int × Int × Bool)) × Int × (Int × Int) × Int × Int) := (Pk.fst (pk (Sh.cons (Sh.ros 40) (Sh.cons (Sh.int .i64) (Sh.cons (Sh.agg (Sh.cons (Sh.int .i64) (Sh.fst (Sh.cons (Sh.int .i64) Sh.nil)))) (Sh.fst (Sh.cons (Sh.agg (Sh.cons (Sh.int .i64) (Sh.fst (Sh.cons (Sh.int .i64) Sh.nil)))) Sh.nil))))) Sh.hnil))
def w10_0 : Wk G (List (Int × Int × Bool)) := (Wk.one [(.own 0 35)] (Pk.snd (pk (Sh.snd (Sh.cons (Sh.osl 0) Sh.nil)) (Sh.fst (Sh.hrow 0 35 Sh.hnil)))))
def c10_0_4 : Pk G (((List (Int × Int × Int × Int × Bool)) × Int) × (List (Int × Int × Bool)) × (Int × Int) × Int × Int) := (pk (Sh.cons (Sh.ros 40) (Sh.fst (Sh.cons (Sh.int .i64) (Sh.snd (Sh.cons (Sh.ptr 0 0) (Sh.snd (Sh.cons (Sh.ptr 1 0) (Sh.snd (Sh.cons (Sh.osl 2) Sh.nil))))))))) (Sh.hrow 2 35 (Sh.hfix 1 25 (Sh.cons (Sh.int .i64) (Sh.fst (Sh.cons (Sh.int .i64) Sh.nil))) (Sh.fst (Sh.hfix 0 25 (Sh.cons (Sh.int .i64) (Sh.fst (Sh.cons (Sh.int .i64) Sh.nil))) Sh.hnil)))))
def c10_0_5 : Pk G (((List (Int × Int × Int × Int × Bool)) × Int × Int × Int) × (List (Int × Int × Bool)) × (Int × Int) × Int × Int) := (pk (Sh.cons (Sh.ros 40) (Sh.cons (Sh.int .i64) (Sh.snd (Sh.cons (Sh.ptr 0 0) (Sh.snd (Sh.cons (Sh.ptr 1 0) (Sh.snd (Sh.cons (Sh.osl 2) (Sh.cons (Sh.int .i64) (Sh.fst (Sh.cons (Sh.int .i64) Sh.nil))))))))))) (Sh.hrow 2 35 (Sh.hfix 1 25 (Sh.cons (Sh.int .i64) (Sh.fst (Sh.cons (Sh.int .i64) Sh.nil))) (Sh.fst (Sh.hfix 0 25 (Sh.cons (Sh.int .i64) (Sh.fst (Sh.cons (Sh.int .i64) Sh.nil))) Sh.hnil)))))
def B10_0_4 (K : ((((List (Int × Int × Int × Int × Bool)) × Int) × (List (Int × Int × Bool)) × (Int × Int) × Int × Int) → Option (List (Int × Int × Bool))) × ((((List (Int × Int × Int × Int × Bool)) × Int × Int × Int) × (List (Int × Int × Bool)) × (Int × Int) × Int × Int) → Option (List (Int × Int × Bool)))) (v : ((List (Int × Int × Int × Int × Bool)) × Int) × (List (Int × Int × Bool)) × (Int × Int) × Int × Int) : Option (List (Int × Int × Bool)) :=
  K.2 ((v.1.1, (v.1.2, (((v.1.1).length : Int), (0 : Int)))), v.2)

def B10_0_5 (K : ((((List (Int × Int × Int × Int × Bool)) × Int) × (List (Int × Int × Bool)) × (Int × Int) × Int × Int) → Option (List (Int × Int × Bool))) × ((((List (Int × Int × Int × Int × Bool)) × Int × Int × Int) × (List (Int × Int × Bool)) × (Int × Int) × Int × Int) → Option (List (Int × Int × Bool)))) (v : ((List (Int × Int × Int × Int × Bool)) × Int × Int × Int) × (List (Int × Int × Bool)) × (Int × Int) × Int × Int) : Option (List (Int × Int × Bool)) :=
  bif (decide (v.1.2.2.2 < v.1.2.2.1)) then
    let x519 : Int := (IntKind.wrap .i64 (v.1.2.1 + v.1.2.2.2))
    bif (decide (x519 ≥ ((v.1.1).length : Int))) then
      let x520 : Int := (IntKind.wrap .i64 (x519 - ((v.1.1).length : Int)))
      (rdx v.1.1 x520).bind fun (x521 : Int × Int × Int × Int × Bool) =>
      (rdx v.1.1 x520).bind fun (x522 : Int × Int × Int × Int × Bool) =>
      (F15_0 ((x521.1, x521.2.1), ((x522.2.2.1, x522.2.2.2.1), (v.2.2.2, v.2.2.1)))).bind fun r523 =>
      bif (!r523.2) then
        bif (decide (((v.2.1).length : Int) > (0 : Int))) then
          some (v.2.1)
        else
          let x524 : Int := (IntKind.wrap .i64 (v.1.2.1 - (1 : Int)))
          bif (decide (x524 < (0 : Int))) then
            let x525 : Int := (IntKind.wrap .i64 (((v.1.1).length : Int) - (1 : Int)))
            (rdx v.1.1 x525).bind fun (x526 : Int × Int × Int × Int × Bool) =>
            (rdx v.1.1 x525).bind fun (x527 : Int × Int × Int × Int × Bool) =>
            (F15_0 ((x526.2.2.1, x526.2.2.2.1), ((x527.1, x527.2.1), (v.2.2.2, v.2.2.1)))).bind fun r528 =>
            bif r528.2 then
              (chk (decide (((v.2.1).length + (([(x525, (r528.1, true))] : List (Int × Int × Bool))).length) * 16 ≤ 140737488355328))).bind fun _ =>
              let x529 : List (Int × Int × Bool) := (v.2.1 ++ ([(x525, (r528.1, true))] : List (Int × Int × Bool)))
              some (x529)
            else
              some (v.2.1)
          else
            (rdx v.1.1 x524).bind fun (x530 : Int × Int × Int × Int × Bool) =>
            (rdx v.1.1 x524).bind fun (x531 : Int × Int × Int × Int × Bool) =>
            (F15_0 ((x530.2.2.1, x530.2.2.2.1), ((x531.1, x531.2.1), (v.2.2.2, v.2.2.1)))).bind fun r532 =>
            bif r532.2 then
              (chk (decide (((v.2.1).length + (([(x524, (r532.1, true))] : List (Int × Int × Bool))).length) * 16 ≤ 140737488355328))).bind fun _ =>
              let x533 : List (Int × Int × Bool) := (v.2.1 ++ ([(x524, (r532.1, true))] : List (Int × Int × Bool)))
              some (x533)
            else
              some (v.2.1)
      else
        bif (decide (v.1.2.2.2 > (0 : Int))) then
          let x534 : Int := (IntKind.wrap .i64 (v.1.2.2.2 - (1 : Int)))
          (idx x534 (v.2.1).length).bind fun (x535 : Nat) =>
          ((v.2.1)[x535]?).bind fun (x536 : Int × Int × Bool) =>
          bif (decide (r523.1 < x536.2.1)) then
            bif (decide (((v.2.1).length : Int) > (0 : Int))) then
              some (v.2.1)
            else
              let x537 : Int := (IntKind.wrap .i64 (v.1.2.1 - (1 : Int)))
              bif (decide (x537 < (0 : Int))) then
                let x538 : Int := (IntKind.wrap .i64 (((v.1.1).length : Int) - (1 : Int)))
                (rdx v.1.1 x538).bind fun (x539 : Int × Int × Int × Int × Bool) =>
                (rdx v.1.1 x538).bind fun (x540 : Int × Int × Int × Int × Bool) =>
                (F15_0 ((x539.2.2.1, x539.2.2.2.1), ((x540.1, x540.2.1), (v.2.2.2, v.2.2.1)))).bind fun r541 =>
                bif r541.2 then
                  (chk (decide (((v.2.1).length + (([(x538, (r541.1, true))] : List (Int × Int × Bool))).length) * 16 ≤ 140737488355328))).bind fun _ =>
                  let x542 : List (Int × Int × Bool) := (v.2.1 ++ ([(x538, (r541.1, true))] : List (Int × Int × Bool)))
                  some (x542)
                else
                  some (v.2.1)
              else
                (rdx v.1.1 x537).bind fun (x543 : Int × Int × Int × Int × Bool) =>
                (rdx v.1.1 x537).bind fun (x544 : Int × Int × Int × Int × Bool) =>
                (F15_0 ((x543.2.2.1, x543.2.2.2.1), ((x544.1, x544.2.1), (v.2.2.2, v.2.2.1)))).bind fun r545 =>
                bif r545.2 then
                  (chk (decide (((v.2.1).length + (([(x537, (r545.1, true))] : List (Int × Int × Bool))).length) * 16 ≤ 140737488355328))).bind fun _ =>
                  let x546 : List (Int × Int × Bool) := (v.2.1 ++ ([(x537, (r545.1, true))] : List (Int × Int × Bool)))
                  some (x546)
                else
                  some (v.2.1)
          else
            (chk (decide (((v.2.1).length + (([(x520, (r523.1, false))] : List (Int × Int × Bool))).length) * 16 ≤ 140737488355328))).bind fun _ =>
            let x547 : List (Int × Int × Bool) := (v.2.1 ++ ([(x520, (r523.1, false))] : List (Int × Int × Bool)))
            let x548 : Int := (IntKind.wrap .i64 (v.1.2.2.2 + (1 : Int)))
            K.2 ((v.1.1, (v.1.2.1, (v.1.2.2.1, x548))), (x547, v.2.2))
        else
          (chk (decide (((v.2.1).length + (([(x520, (r523.1, false))] : List (Int × Int × Bool))).length) * 16 ≤ 140737488355328))).bind fun _ =>
          let x549 : List (Int × Int × Bool) := (v.2.1 ++ ([(x520, (r523.1, false))] : List (Int × Int × Bool)))
          let x550 : Int := (IntKind.wrap .i64 (v.1.2.2.2 + (1 : Int)))
          K.2 ((v.1.1, (v.1.2.1, (v.1.2.2.1, x550))), (x549, v.2.2))
    else
      (rdx v.1.1 x519).bind fun (x551 : Int × Int × Int × Int × Bool) =>
      (rdx v.1.1 x519).bind fun (x552 : Int × Int × Int × Int × Bool) =>
      (F15_0 ((x551.1, x551.2.1), ((x552.2.2.1, x552.2.2.2.1), (v.2.2.2, v.2.2.1)))).bind fun r553 =>
      bif (!r553.2) then
        bif (decide (((v.2.1).length : Int) > (0 : Int))) then
          some (v.2.1)
        else
          let x554 : Int := (IntKind.wrap .i64 (v.1.2.1 - (1 : Int)))
          bif (decide (x554 < (0 : Int))) then
            let x555 : Int := (IntKind.wrap .i64 (((v.1.1).length : Int) - (1 : Int)))
            (rdx v.1.1 x555).bind fun (x556 : Int × Int × Int × Int × Bool) =>
            (rdx v.1.1 x555).bind fun (x557 : Int × Int × Int × Int × Bool) =>
            (F15_0 ((x556.2.2.1, x556.2.2.2.1), ((x557.1, x557.2.1), (v.2.2.2, v.2.2.1)))).bind fun r558 =>
            bif r558.2 then
              (chk (decide (((v.2.1).length + (([(x555, (r558.1, true))] : List (Int × Int × Bool))).length) * 16 ≤ 140737488355328))).bind fun _ =>
              let x559 : List (Int × Int × Bool) := (v.2.1 ++ ([(x555, (r558.1, true))] : List (Int × Int × Bool)))
              some (x559)
            else
              some (v.2.1)
          else
            (rdx v.1.1 x554).bind fun (x560 : Int × Int × Int × Int × Bool) =>
            (rdx v.1.1 x554).bind fun (x561 : Int × Int × Int × Int × Bool) =>
            (F15_0 ((x560.2.2.1, x560.2.2.2.1), ((x561.1, x561.2.1), (v.2.2.2, v.2.2.1)))).bind fun r562 =>
            bif r562.2 then
              (chk (decide (((v.2.1).length + (([(x554, (r562.1, true))] : List (Int × Int × Bool))).length) * 16 ≤ 140737488355328))).bind fun _ =>
              let x563 : List (Int × Int × Bool) := (v.2.1 ++ ([(x554, (r562.1, true))] : List (Int × Int × Bool)))
              some (x563)
            else
              some (v.2.1)
      else
        bif (decide (v.1.2.2.2 > (0 : Int))) then
          let x564 : Int := (IntKind.wrap .i64 (v.1.2.2.2 - (1 : Int)))
          (idx x564 (v.2.1).length).bind fun (x565 : Nat) =>
          ((v.2.1)[x565]?).bind fun (x566 : Int × Int × Bool) =>
          bif (decide (r553.1 < x566.2.1)) then
            bif (decide (((v.2.1).length : Int) > (0 : Int))) then
              some (v.2.1)
            else
              let x567 : Int := (IntKind.wrap .i64 (v.1.2.1 - (1 : Int)))
              bif (decide (x567 < (0 : Int))) then
                let x568 : Int := (IntKind.wrap .i64 (((v.1.1).length : Int) - (1 : Int)))
                (rdx v.1.1 x568).bind fun (x569 : Int × Int × Int × Int × Bool) =>
                (rdx v.1.1 x568).bind fun (x570 : Int × Int × Int × Int × Bool) =>
                (F15_0 ((x569.2.2.1, x569.2.2.2.1), ((x570.1, x570.2.1), (v.2.2.2, v.2.2.1)))).bind fun r571 =>
                bif r571.2 then
                  (chk (decide (((v.2.1).length + (([(x568, (r571.1, true))] : List (Int × Int × Bool))).length) * 16 ≤ 140737488355328))).bind fun _ =>
                  let x572 : List (Int × Int × Bool) := (v.2.1 ++ ([(x568, (r571.1, true))] : List (Int × Int × Bool)))
                  some (x572)
                else
                  some (v.2.1)
              else
                (rdx v.1.1 x567).bind fun (x573 : Int × Int × Int × Int × Bool) =>
                (rdx v.1.1 x567).bind fun (x574 : Int × Int × Int × Int × Bool) =>
                (F15_0 ((x573.2.2.1, x573.2.2.2.1), ((x574.1, x574.2.1), (v.2.2.2, v.2.2.1)))).bind fun r575 =>
                bif r575.2 then
                  (chk (decide (((v.2.1).length + (([(x567, (r575.1, true))] : List (Int × Int × Bool))).length) * 16 ≤ 140737488355328))).bind fun _ =>
                  let x576 : List (Int × Int × Bool) := (v.2.1 ++ ([(x567, (r575.1, true))] : List (Int × Int × Bool)))
                  some (x576)
                else
                  some (v.2.1)
          else
            (chk (decide (((v.2.1).length + (([(x519, (r553.1, false))] : List (Int × Int × Bool))).length) * 16 ≤ 140737488355328))).bind fun _ =>
            let x577 : List (Int × Int × Bool) := (v.2.1 ++ ([(x519, (r553.1, false))] : List (Int × Int × Bool)))
            let x578 : Int := (IntKind.wrap .i64 (v.1.2.2.2 + (1 : Int)))
            K.2 ((v.1.1, (v.1.2.1, (v.1.2.2.1, x578))), (x577, v.2.2))
        else
          (chk (decide (((v.2.1).length + (([(x519, (r553.1, false))] : List (Int × Int × Bool))).length) * 16 ≤ 140737488355328))).bind fun _ =>
          let x579 : List (Int × Int × Bool) := (v.2.1 ++ ([(x519, (r553.1, false))] : List (Int × Int × Bool)))
          let x580 : Int := (IntKind.wrap .i64 (v.1.2.2.2 + (1 : Int)))
          K.2 ((v.1.1, (v.1.2.1, (v.1.2.2.1, x580))), (x579, v.2.2))
  else
    bif (decide (((v.2.1).length : Int) > (0 : Int))) then
      some (v.2.1)
    else
      let x581 : Int := (IntKind.wrap .i64 (v.1.2.1 - (1 : Int)))
      bif (decide (x581 < (0 : Int))) then
        let x582 : Int := (IntKind.wrap .i64 (((v.1.1).length : Int) - (1 : Int)))
        (rdx v.1.1 x582).bind fun (x583 : Int × Int × Int × Int × Bool) =>
        (rdx v.1.1 x582).bind fun (x584 : Int × Int × Int × Int × Bool) =>
        (F15_0 ((x583.2.2.1, x583.2.2.2.1), ((x584.1, x584.2.1), (v.2.2.2, v.2.2.1)))).bind fun r585 =>
        bif r585.2 then
          (chk (decide (((v.2.1).length + (([(x582, (r585.1, true))] : List (Int × Int × Bool))).length) * 16 ≤ 140737488355328))).bind fun _ =>
          let x586 : List (Int × Int × Bool) := (v.2.1 ++ ([(x582, (r585.1, true))] : List (Int × Int × Bool)))
          some (x586)
        else
          some (v.2.1)
      else
        (rdx v.1.1 x581).bind fun (x587 : Int × Int × Int × Int × Bool) =>
        (rdx v.1.1 x581).bind fun (x588 : Int × Int × Int × Int × Bool) =>
        (F15_0 ((x587.2.2.1, x587.2.2.2.1), ((x588.1, x588.2.1), (v.2.2.2, v.2.2.1)))).bind fun r589 =>
        bif r589.2 then
          (chk (decide (((v.2.1).length + (([(x581, (r589.1, true))] : List (Int × Int × Bool))).length) * 16 ≤ 140737488355328))).bind fun _ =>
          let x590 : List (Int × Int × Bool) := (v.2.1 ++ ([(x581, (r589.1, true))] : List (Int × Int × Bool)))
          some (x590)
        else
          some (v.2.1)

def E10_0 (K : ((((List (Int × Int × Int × Int × Bool)) × Int) × (List (Int × Int × Bool)) × (Int × Int) × Int × Int) → Option (List (Int × Int × Bool))) × ((((List (Int × Int × Int × Int × Bool)) × Int × Int × Int) × (List (Int × Int × Bool)) × (Int × Int) × Int × Int) → Option (List (Int × Int × Bool)))) (v : (List (Int × Int × Int × Int × Bool)) × Int × (Int × Int) × Int × Int) : Option (List (Int × Int × Bool)) :=
  bif (decide (v.2.1 < (0 : Int))) then
    some ([] : List (Int × Int × Bool))
  else
    bif (decide (v.2.1 ≥ ((v.1).length : Int))) then
      some ([] : List (Int × Int × Bool))
    else
      K.1 ((v.1, v.2.1), (([] : List (Int × Int × Bool)), (v.2.2.2, v.2.2.1)))

def K10_0 : Nat → ((((List (Int × Int × Int × Int × Bool)) × Int) × (List (Int × Int × Bool)) × (Int × Int) × Int × Int) → Option (List (Int × Int × Bool))) × ((((List (Int × Int × Int × Int × Bool)) × Int × Int × Int) × (List (Int × Int × Bool)) × (Int × Int) × Int × Int) → Option (List (Int × Int × Bool)))
  | 0 => (fun _ => none, fun _ => none)
  | n + 1 => (B10_0_4 (K10_0 n), B10_0_5 (K10_0 n))
def fuel10_0 (v : (List (Int × Int × Int × Int × Bool)) × Int × (Int × Int) × Int × Int) : Nat := 1000
def F10_0 (v : (List (Int × Int × Int × Int × Bool)) × Int × (Int × Int) × Int × Int) : Option (List (Int × Int × Bool)) := E10_0 (K10_0 (fuel10_0 v)) v
noncomputable def k10_0 : List (Known Try.prog E) := [Known.of envOk [9, 9, 9, 9] [(.agg [.keep, .keep]), (.agg [.keep, .keep]), (.agg [.keep, .keep]), (.agg [.keep, .keep])] v15_0 F15_0 w15_0 ok15_0]
def s10_0_5 : List (Nat × Pat) := [(0, (.ros 40)), (1, .keep), (6, (.ptr 0 0 25 [.keep, .keep])), (7, (.ptr 1 0 25 [.keep, .keep])), (9, (.own 2 35)), (26, .keep), (27, .keep)]
def s10_0_4 : List (Nat × Pat) := [(0, (.ros 40)), (1, .keep), (6, (.ptr 0 0 25 [.keep, .keep])), (7, (.ptr 1 0 25 [.keep, .keep])), (9, (.own 2 35))]
noncomputable def L10_0 (n id : Nat) (st : St G) : Option (List (Int × Int × Bool)) := match Nat.beq id 4 with | true => cutK Try.prog s10_0_4 [] c10_0_4.dec (K10_0 n).1 st | false => match Nat.beq id 5 with | true => cutK Try.prog s10_0_5 [] c10_0_5.dec (K10_0 n).2 st | false => none
set_option maxRecDepth 100000 in
theorem e10_0 (n : Nat) (v : (List (Int × Int × Int × Int × Bool)) × Int × (Int × Int) × Int × Int) : ev Try.prog E (oracle k10_0) Try.f10.ntmps (fun x => mem x [4, 5]) (L10_0 n) (finA Try.prog E Try.f10.results.toList [] w10_0.alts) 4000 [.code (Try.f10.body.getD .skip)] (argSt (v10_0.enc v)) = E10_0 (K10_0 n) v := by kernel_rfl
set_option maxRecDepth 100000 in
theorem b10_0_4 (n : Nat) (v : ((List (Int × Int × Int × Int × Bool)) × Int) × (List (Int × Int × Bool)) × (Int × Int) × Int × Int) : evCut Try.prog E (oracle k10_0) Try.f10.ntmps (fun x => mem x [4, 5]) (L10_0 n) (finA Try.prog E Try.f10.results.toList [] w10_0.alts) 4000 (todoAt (Try.f10.body.getD .skip) 4) (cutSt s10_0_4 (c10_0_4.enc v)) = B10_0_4 (K10_0 n) v := by kernel_rfl
set_option maxRecDepth 100000 in
theorem b10_0_5 (n : Nat) (v : ((List (Int × Int × Int × Int × Bool)) × Int × Int × Int) × (List (Int × Int × Bool)) × (Int × Int) × Int × Int) : evCut Try.prog E (oracle k10_0) Try.f10.ntmps (fun x => mem x [4, 5]) (L10_0 n) (finA Try.prog E Try.f10.results.toList [] w10_0.alts) 4000 (todoAt (Try.f10.body.getD .skip) 5) (cutSt s10_0_5 (c10_0_5.enc v)) = B10_0_5 (K10_0 n) v := by kernel_rfl
theorem ok10_0 : FnOk Try.prog E 10 v10_0.enc F10_0 w10_0.enc :=
  fn_known (fn := Try.f10) (c := (Try.f10.body.getD .skip)) Try.func10 (by kernel_rfl) rfl envOk (oracle_ok k10_0) mixed v10_0 F10_0 w10_0 [] [4, 5] 4000 L10_0 (by kernel_rfl)
    (List.forall_mem_cons.2 ⟨⟨_, s10_0_4, c10_0_4.dec, c10_0_4.enc, fun n => (K10_0 n).1, c10_0_4.ok, fun _ _ => rfl, fun _ => rfl, fun n v _ h => (b10_0_4 n v).trans h⟩, List.forall_mem_cons.2 ⟨⟨_, s10_0_5, c10_0_5.dec, c10_0_5.enc, fun n => (K10_0 n).2, c10_0_5.ok, fun _ _ => rfl, fun _ => rfl, fun n v _ h => (b10_0_5 n v).trans h⟩, fun _ h => (nomatch h)⟩⟩) (fun v _ h => ⟨fuel10_0 v, (e10_0 _ v).trans h⟩) (fun _ => by kernel_rfl) (fun _ => by kernel_rfl) (fun _ _ => by kernel_rfl)
/- chicane/chicaneref07.Near -/
abbrev A34_0 : Type := List (Int × Int)
abbrev R34_0 : Type := Bool
def v34_0 : Pk G (List (Int × Int)) := (Pk.fst (pk (Sh.fst (Sh.cons (Sh.ros 25) Sh.nil)) Sh.hnil))
def w34_0 : Wk G Bool := (Wk.one [.keep] (Pk.fst (pk (Sh.fst (Sh.cons Sh.bool Sh.nil)) Sh.hnil)))
def c34_0_2 : Pk G ((List (Int × Int)) × Int) := (Pk.fst (pk (Sh.cons (Sh.ros 25) (Sh.fst (Sh.cons (Sh.int .i64) Sh.nil))) Sh.hnil))
def B34_0_2 (K : (((List (Int × Int)) × Int) → Option Bool)) (v : (List (Int × Int)) × Int) : Option Bool :=
  bif (decide (v.2 < ((v.1).length : Int))) then
    (rdx v.1 v.2).bind fun (x607 : Int × Int) =>
    bif (decide (x607.1 > (281474976710656 : Int))) then
      some (false)
    else
      (rdx v.1 v.2).bind fun (x608 : Int × Int) =>
      bif (decide (x608.1 < (-281474976710656 : Int))) then
        some (false)
      else
        (rdx v.1 v.2).bind fun (x609 : Int × Int) =>
        bif (decide (x609.2 > (281474976710656 : Int))) then
          some (false)
        else
          (rdx v.1 v.2).bind fun (x610 : Int × Int) =>
          bif (decide (x610.2 < (-281474976710656 : Int))) then
            some (false)
          else
            let x611 : Int := (IntKind.wrap .i64 (v.2 + (1 : Int)))
            K (v.1, x611)
  else
    some (true)

def E34_0 (K : (((List (Int × Int)) × Int) → Option Bool)) (v : List (Int × Int)) : Option Bool :=
  K (v, (0 : Int))

def K34_0 : Nat → (((List (Int × Int)) × Int) → Option Bool)
  | 0 => (fun _ => none)
  | n + 1 => (B34_0_2 (K34_0 n))
def fuel34_0 (v : List (Int × Int)) : Nat := 1000
def F34_0 (v : List (Int × Int)) : Option Bool := E34_0 (K34_0 (fuel34_0 v)) v
noncomputable def k34_0 : List (Known Try.prog E) := []
def s34_0_2 : List (Nat × Pat) := [(0, (.ros 25)), (3, .keep)]
noncomputable def L34_0 (n id : Nat) (st : St G) : Option Bool := match Nat.beq id 2 with | true => cutK Try.prog s34_0_2 [] c34_0_2.dec (K34_0 n) st | false => none
set_option maxRecDepth 100000 in
theorem e34_0 (n : Nat) (v : List (Int × Int)) : ev Try.prog E (oracle k34_0) Try.f34.ntmps (fun x => mem x [2]) (L34_0 n) (finA Try.prog E Try.f34.results.toList [] w34_0.alts) 4000 [.code (Try.f34.body.getD .skip)] (argSt (v34_0.enc v)) = E34_0 (K34_0 n) v := by kernel_rfl
set_option maxRecDepth 100000 in
theorem b34_0_2 (n : Nat) (v : (List (Int × Int)) × Int) : evCut Try.prog E (oracle k34_0) Try.f34.ntmps (fun x => mem x [2]) (L34_0 n) (finA Try.prog E Try.f34.results.toList [] w34_0.alts) 4000 (todoAt (Try.f34.body.getD .skip) 2) (cutSt s34_0_2 (c34_0_2.enc v)) = B34_0_2 (K34_0 n) v := by kernel_rfl
theorem ok34_0 : FnOk Try.prog E 34 v34_0.enc F34_0 w34_0.enc :=
  fn_known (fn := Try.f34) (c := (Try.f34.body.getD .skip)) Try.func34 (by kernel_rfl) rfl envOk (oracle_ok k34_0) mixed v34_0 F34_0 w34_0 [] [2] 4000 L34_0 (by kernel_rfl)
    (List.forall_mem_cons.2 ⟨⟨_, s34_0_2, c34_0_2.dec, c34_0_2.enc, fun n => (K34_0 n), c34_0_2.ok, fun _ _ => rfl, fun _ => rfl, fun n v _ h => (b34_0_2 n v).trans h⟩, fun _ h => (nomatch h)⟩) (fun v _ h => ⟨fuel34_0 v, (e34_0 _ v).trans h⟩) (fun _ => by kernel_rfl) (fun _ => by kernel_rfl) (fun _ _ => by kernel_rfl)
/- chicane/chicaneref01.Size -/
abbrev A65_0 : Type := Int
abbrev R65_0 : Type := Int
def v65_0 : Pk G Int := (Pk.fst (pk (Sh.fst (Sh.cons (Sh.int .i64) Sh.nil)) Sh.hnil))
def w65_0 : Wk G Int := (Wk.one [.keep] (Pk.fst (pk (Sh.fst (Sh.cons (Sh.int .u64) Sh.nil)) Sh.hnil)))
def F65_0 (v : Int) : Option Int :=
  bif (decide (v < (0 : Int))) then
    let x625 : Int := (IntKind.wrap .i64 (v + (1 : Int)))
    let x626 : Int := (IntKind.wrap .i64 (0 - x625))
    let x627 : Int := (IntKind.wrap .u64 x626)
    let x628 : Int := (IntKind.wrap .u64 (x627 + (1 : Int)))
    some (x628)
  else
    let x629 : Int := (IntKind.wrap .u64 v)
    some (x629)

noncomputable def k65_0 : List (Known Try.prog E) := []
noncomputable def L65_0 (n id : Nat) (st : St G) : Option Int := none
set_option maxRecDepth 100000 in
theorem e65_0 (n : Nat) (v : Int) : ev Try.prog E (oracle k65_0) Try.f65.ntmps (fun x => mem x []) (L65_0 n) (finA Try.prog E Try.f65.results.toList [] w65_0.alts) 4000 [.code (Try.f65.body.getD .skip)] (argSt (v65_0.enc v)) = F65_0 v := by kernel_rfl
theorem ok65_0 : FnOk Try.prog E 65 v65_0.enc F65_0 w65_0.enc :=
  fn_known (fn := Try.f65) (c := (Try.f65.body.getD .skip)) Try.func65 (by kernel_rfl) rfl envOk (oracle_ok k65_0) mixed v65_0 F65_0 w65_0 [] [] 4000 L65_0 (by kernel_rfl)
    (fun _ h => nomatch h) (fun v _ h => ⟨0, (e65_0 _ v).trans h⟩) (fun _ => by kernel_rfl) (fun _ => by kernel_rfl) (fun _ _ => by kernel_rfl)
/- chicane/chicaneref01.low -/
abbrev A66_0 : Type := Int
abbrev R66_0 : Type := Int
def v66_0 : Pk G Int := (Pk.fst (pk (Sh.fst (Sh.cons (Sh.int .u64) Sh.nil)) Sh.hnil))
def w66_0 : Wk G Int := (Wk.one [.keep] (Pk.fst (pk (Sh.fst (Sh.cons (Sh.int .u64) Sh.nil)) Sh.hnil)))
def F66_0 (v : Int) : Option Int :=
  let x634 : Int := (Int.tmod v (4294967296 : Int))
  some (x634)

noncomputable def k66_0 : List (Known Try.prog E) := []
noncomputable def L66_0 (n id : Nat) (st : St G) : Option Int := none
set_option maxRecDepth 100000 in
theorem e66_0 (n : Nat) (v : Int) : ev Try.prog E (oracle k66_0) Try.f66.ntmps (fun x => mem x []) (L66_0 n) (finA Try.prog E Try.f66.results.toList [] w66_0.alts) 4000 [.code (Try.f66.body.getD .skip)] (argSt (v66_0.enc v)) = F66_0 v := by kernel_rfl
theorem ok66_0 : FnOk Try.prog E 66 v66_0.enc F66_0 w66_0.enc :=
  fn_known (fn := Try.f66) (c := (Try.f66.body.getD .skip)) Try.func66 (by kernel_rfl) rfl envOk (oracle_ok k66_0) mixed v66_0 F66_0 w66_0 [] [] 4000 L66_0 (by kernel_rfl)
    (fun _ h => nomatch h) (fun v _ h => ⟨0, (e66_0 _ v).trans h⟩) (fun _ => by kernel_rfl) (fun _ => by kernel_rfl) (fun _ _ => by kernel_rfl)
/- chicane/chicaneref01.Zero -/
abbrev A53_0 : Type := Bool × Int × Int × Int × Int
abbrev R53_0 : Type := Bool
def v53_0 : Pk G (Bool × Int × Int × Int × Int) := (Pk.fst (pk (Sh.fst (Sh.cons (Sh.agg (Sh.cons Sh.bool (Sh.cons (Sh.int .u64) (Sh.cons (Sh.int .u64) (Sh.cons (Sh.int .u64) (Sh.fst (Sh.cons (Sh.int .u64) Sh.nil))))))) Sh.nil)) Sh.hnil))
def w53_0 : Wk G Bool := (Wk.one [.keep] (Pk.fst (pk (Sh.fst (Sh.cons Sh.bool Sh.nil)) Sh.hnil)))
def F53_0 (v : Bool × Int × Int × Int × Int) : Option Bool :=
  bif (v.2.1 == (0 : Int)) then
    bif (v.2.2.1 == (0 : Int)) then
      bif (v.2.2.2.1 == (0 : Int)) then
        some (v.2.2.2.2 == (0 : Int))
      else
        some (false)
    else
      some (false)
  else
    some (false)

noncomputable def k53_0 : List (Known Try.prog E) := []
noncomputable def L53_0 (n id : Nat) (st : St G) : Option Bool := none
set_option maxRecDepth 100000 in
theorem e53_0 (n : Nat) (v : Bool × Int × Int × Int × Int) : ev Try.prog E (oracle k53_0) Try.f53.ntmps (fun x => mem x []) (L53_0 n) (finA Try.prog E Try.f53.results.toList [] w53_0.alts) 4000 [.code (Try.f53.body.getD .skip)] (argSt (v53_0.enc v)) = F53_0 v := by kernel_rfl
theorem ok53_0 : FnOk Try.prog E 53 v53_0.enc F53_0 w53_0.enc :=
  fn_known (fn := Try.f53) (c := (Try.f53.body.getD .skip)) Try.func53 (by kernel_rfl) rfl envOk (oracle_ok k53_0) mixed v53_0 F53_0 w53_0 [] [] 4000 L53_0 (by kernel_rfl)
    (fun _ h => nomatch h) (fun v _ h => ⟨0, (e53_0 _ v).trans h⟩) (fun _ => by kernel_rfl) (fun _ => by kernel_rfl) (fun _ _ => by kernel_rfl)
/- chicane/chicaneref01.Mul -/
abbrev A52_0 : Type := Int × Int
abbrev R52_0 : Type := Bool × Int × Int × Int × Int
def v52_0 : Pk G (Int × Int) := (Pk.fst (pk (Sh.cons (Sh.int .i64) (Sh.fst (Sh.cons (Sh.int .i64) Sh.nil))) Sh.hnil))
def w52_0 : Wk G (Bool × Int × Int × Int × Int) := (Wk.one [(.agg [.keep, .keep, .keep, .keep, .keep])] (Pk.fst (pk (Sh.fst (Sh.cons (Sh.agg (Sh.cons Sh.bool (Sh.cons (Sh.int .u64) (Sh.cons (Sh.int .u64) (Sh.cons (Sh.int .u64) (Sh.fst (Sh.cons (Sh.int .u64) Sh.nil))))))) Sh.nil)) Sh.hnil)))
def c52_0_7 : Pk G (Int × (Bool × Int × Int × Int × Int) × (Int × Int) × (Int × Int) × Bool × Int × Int × Int × Int) := (pk (Sh.snd (Sh.cons (Sh.ptr 0 0) (Sh.snd (Sh.cons (Sh.ptr 1 0) (Sh.snd (Sh.cons (Sh.ptr 2 0) (Sh.snd (Sh.cons (Sh.ptr 3 0) (Sh.fst (Sh.cons (Sh.int .i64) Sh.nil)))))))))) (Sh.hfix 3 88 (Sh.cons Sh.bool (Sh.cons (Sh.int .u64) (Sh.cons (Sh.int .u64) (Sh.cons (Sh.int .u64) (Sh.fst (Sh.cons (Sh.int .u64) Sh.nil)))))) (Sh.hfix 2 130 (Sh.cons (Sh.int .u64) (Sh.fst (Sh.cons (Sh.int .u64) Sh.nil))) (Sh.hfix 1 130 (Sh.cons (Sh.int .u64) (Sh.fst (Sh.cons (Sh.int .u64) Sh.nil))) (Sh.fst (Sh.hfix 0 88 (Sh.cons Sh.bool (Sh.cons (Sh.int .u64) (Sh.cons (Sh.int .u64) (Sh.cons (Sh.int .u64) (Sh.fst (Sh.cons (Sh.int .u64) Sh.nil)))))) Sh.hnil))))))
def c52_0_10 : Pk G ((Int × Int) × (Bool × Int × Int × Int × Int) × (Int × Int) × (Int × Int) × Bool × Int × Int × Int × Int) := (pk (Sh.snd (Sh.cons (Sh.ptr 0 0) (Sh.snd (Sh.cons (Sh.ptr 1 0) (Sh.snd (Sh.cons (Sh.ptr 2 0) (Sh.snd (Sh.cons (Sh.ptr 3 0) (Sh.cons (Sh.int .i64) (Sh.fst (Sh.cons (Sh.int .i64) Sh.nil))))))))))) (Sh.hfix 3 88 (Sh.cons Sh.bool (Sh.cons (Sh.int .u64) (Sh.cons (Sh.int .u64) (Sh.cons (Sh.int .u64) (Sh.fst (Sh.cons (Sh.int .u64) Sh.nil)))))) (Sh.hfix 2 130 (Sh.cons (Sh.int .u64) (Sh.fst (Sh.cons (Sh.int .u64) Sh.nil))) (Sh.hfix 1 130 (Sh.cons (Sh.int .u64) (Sh.fst (Sh.cons (Sh.int .u64) Sh.nil))) (Sh.fst (Sh.hfix 0 88 (Sh.cons Sh.bool (Sh.cons (Sh.int .u64) (Sh.cons (Sh.int .u64) (Sh.cons (Sh.int .u64) (Sh.fst (Sh.cons (Sh.int .u64) Sh.nil)))))) Sh.hnil))))))
def c52_0_15 : Pk G ((Int × Int × Int × Int) × (Bool × Int × Int × Int × Int) × (Int × Int) × (Int × Int) × Bool × Int × Int × Int × Int) := (pk (Sh.snd (Sh.cons (Sh.ptr 0 0) (Sh.snd (Sh.cons (Sh.ptr 1 0) (Sh.snd (Sh.cons (Sh.ptr 2 0) (Sh.snd (Sh.cons (Sh.ptr 3 0) (Sh.cons (Sh.int .i64) (Sh.cons (Sh.int .i64) (Sh.cons (Sh.int .u64) (Sh.fst (Sh.cons (Sh.int .i64) Sh.nil))))))))))))) (Sh.hfix 3 88 (Sh.cons Sh.bool (Sh.cons (Sh.int .u64) (Sh.cons (Sh.int .u64) (Sh.cons (Sh.int .u64) (Sh.fst (Sh.cons (Sh.int .u64) Sh.nil)))))) (Sh.hfix 2 130 (Sh.cons (Sh.int .u64) (Sh.fst (Sh.cons (Sh.int .u64) Sh.nil))) (Sh.hfix 1 130 (Sh.cons (Sh.int .u64) (Sh.fst (Sh.cons (Sh.int .u64) Sh.nil))) (Sh.fst (Sh.hfix 0 88 (Sh.cons Sh.bool (Sh.cons (Sh.int .u64) (Sh.cons (Sh.int .u64) (Sh.cons (Sh.int .u64) (Sh.fst (Sh.cons (Sh.int .u64) Sh.nil)))))) Sh.hnil))))))
def B52_0_7 (K : ((Int × (Bool × Int × Int × Int × Int) × (Int × Int) × (Int × Int) × Bool × Int × Int × Int × Int) → Option (Bool × Int × Int × Int × Int)) × (((Int × Int) × (Bool × Int × Int × Int × Int) × (Int × Int) × (Int × Int) × Bool × Int × Int × Int × Int) → Option (Bool × Int × Int × Int × Int)) × (((Int × Int × Int × Int) × (Bool × Int × Int × Int × Int) × (Int × Int) × (Int × Int) × Bool × Int × Int × Int × Int) → Option (Bool × Int × Int × Int × Int))) (v : Int × (Bool × Int × Int × Int × Int) × (Int × Int) × (Int × Int) × Bool × Int × Int × Int × Int) : Option (Bool × Int × Int × Int × Int) :=
  bif (decide (v.1 < (2 : Int))) then
    K.2.1 ((v.1, (0 : Int)), v.2)
  else
    (F53_0 v.2.1).bind fun r727 =>
    bif r727 then
      some (false, v.2.1.2)
    else
      some (v.2.1)

def B52_0_10 (K : ((Int × (Bool × Int × Int × Int × Int) × (Int × Int) × (Int × Int) × Bool × Int × Int × Int × Int) → Option (Bool × Int × Int × Int × Int)) × (((Int × Int) × (Bool × Int × Int × Int × Int) × (Int × Int) × (Int × Int) × Bool × Int × Int × Int × Int) → Option (Bool × Int × Int × Int × Int)) × (((Int × Int × Int × Int) × (Bool × Int × Int × Int × Int) × (Int × Int) × (Int × Int) × Bool × Int × Int × Int × Int) → Option (Bool × Int × Int × Int × Int))) (v : (Int × Int) × (Bool × Int × Int × Int × Int) × (Int × Int) × (Int × Int) × Bool × Int × Int × Int × Int) : Option (Bool × Int × Int × Int × Int) :=
  bif (decide (v.1.2 < (2 : Int))) then
    (idx v.1.1 2).bind fun (x728 : Nat) =>
    (idx v.1.2 2).bind fun (x729 : Nat) =>
    let x730 : Int := (IntKind.wrap .u64 ((List.getD [v.2.2.2.1.1, v.2.2.2.1.2] x728 0) * (List.getD [v.2.2.1.1, v.2.2.1.2] x729 0)))
    let x731 : Int := (IntKind.wrap .i64 (v.1.1 + v.1.2))
    K.2.2 ((v.1.1, (v.1.2, (x730, x731))), v.2)
  else
    let x732 : Int := (IntKind.wrap .i64 (v.1.1 + (1 : Int)))
    K.1 (x732, v.2)

def B52_0_15 (K : ((Int × (Bool × Int × Int × Int × Int) × (Int × Int) × (Int × Int) × Bool × Int × Int × Int × Int) → Option (Bool × Int × Int × Int × Int)) × (((Int × Int) × (Bool × Int × Int × Int × Int) × (Int × Int) × (Int × Int) × Bool × Int × Int × Int × Int) → Option (Bool × Int × Int × Int × Int)) × (((Int × Int × Int × Int) × (Bool × Int × Int × Int × Int) × (Int × Int) × (Int × Int) × Bool × Int × Int × Int × Int) → Option (Bool × Int × Int × Int × Int))) (v : (Int × Int × Int × Int) × (Bool × Int × Int × Int × Int) × (Int × Int) × (Int × Int) × Bool × Int × Int × Int × Int) : Option (Bool × Int × Int × Int × Int) :=
  bif (decide (v.1.2.2.2 < (4 : Int))) then
    bif (decide (v.1.2.2.1 > (0 : Int))) then
      (idx v.1.2.2.2 4).bind fun (x733 : Nat) =>
      (F66_0 v.1.2.2.1).bind fun r734 =>
      let x735 : Int := (IntKind.wrap .u64 ((List.getD [v.2.1.2.1, v.2.1.2.2.1, v.2.1.2.2.2.1, v.2.1.2.2.2.2] x733 0) + r734))
      (F66_0 x735).bind fun r736 =>
      (idx v.1.2.2.2 4).bind fun (x737 : Nat) =>
      let x738 : Int := (IntKind.wrap .u64 (Int.tdiv v.1.2.2.1 (4294967296 : Int)))
      let x739 : Int := (IntKind.wrap .u64 (Int.tdiv x735 (4294967296 : Int)))
      let x740 : Int := (IntKind.wrap .u64 (x738 + x739))
      let x741 : Int := (IntKind.wrap .i64 (v.1.2.2.2 + (1 : Int)))
      K.2.2 ((v.1.1, (v.1.2.1, (x740, x741))), ((v.2.1.1, ((if x737 = 0 then r736 else v.2.1.2.1), ((if x737 = 1 then r736 else v.2.1.2.2.1), ((if x737 = 2 then r736 else v.2.1.2.2.2.1), (if x737 = 3 then r736 else v.2.1.2.2.2.2))))), v.2.2))
    else
      let x742 : Int := (IntKind.wrap .i64 (v.1.2.1 + (1 : Int)))
      K.2.1 ((v.1.1, x742), v.2)
  else
    let x743 : Int := (IntKind.wrap .i64 (v.1.2.1 + (1 : Int)))
    K.2.1 ((v.1.1, x743), v.2)

def E52_0 (K : ((Int × (Bool × Int × Int × Int × Int) × (Int × Int) × (Int × Int) × Bool × Int × Int × Int × Int) → Option (Bool × Int × Int × Int × Int)) × (((Int × Int) × (Bool × Int × Int × Int × Int) × (Int × Int) × (Int × Int) × Bool × Int × Int × Int × Int) → Option (Bool × Int × Int × Int × Int)) × (((Int × Int × Int × Int) × (Bool × Int × Int × Int × Int) × (Int × Int) × (Int × Int) × Bool × Int × Int × Int × Int) → Option (Bool × Int × Int × Int × Int))) (v : Int × Int) : Option (Bool × Int × Int × Int × Int) :=
  (F65_0 v.1).bind fun r721 =>
  (F65_0 v.2).bind fun r722 =>
  (F66_0 r721).bind fun r723 =>
  let x724 : Int := (IntKind.wrap .u64 (Int.tdiv r721 (4294967296 : Int)))
  (F66_0 r722).bind fun r725 =>
  let x726 : Int := (IntKind.wrap .u64 (Int.tdiv r722 (4294967296 : Int)))
  K.1 ((0 : Int), (((!((decide (v.1 < (0 : Int))) == (decide (v.2 < (0 : Int))))), ((0 : Int), ((0 : Int), ((0 : Int), (0 : Int))))), ((r725, x726), ((r723, x724), (false, ((0 : Int), ((0 : Int), ((0 : Int), (0 : Int)))))))))

def K52_0 : Nat → ((Int × (Bool × Int × Int × Int × Int) × (Int × Int) × (Int × Int) × Bool × Int × Int × Int × Int) → Option (Bool × Int × Int × Int × Int)) × (((Int × Int) × (Bool × Int × Int × Int × Int) × (Int × Int) × (Int × Int) × Bool × Int × Int × Int × Int) → Option (Bool × Int × Int × Int × Int)) × (((Int × Int × Int × Int) × (Bool × Int × Int × Int × Int) × (Int × Int) × (Int × Int) × Bool × Int × Int × Int × Int) → Option (Bool × Int × Int × Int × Int))
  | 0 => (fun _ => none, fun _ => none, fun _ => none)
  | n + 1 => (B52_0_7 (K52_0 n), B52_0_10 (K52_0 n), B52_0_15 (K52_0 n))
def fuel52_0 (v : Int × Int) : Nat := 1000
def F52_0 (v : Int × Int) : Option (Bool × Int × Int × Int × Int) := E52_0 (K52_0 (fuel52_0 v)) v
noncomputable def k52_0 : List (Known Try.prog E) := [Known.of envOk [1] [.keep] v65_0 F65_0 w65_0 ok65_0, Known.of envOk [1] [.keep] v66_0 F66_0 w66_0 ok66_0, Known.of envOk [9] [(.agg [.keep, .keep, .keep, .keep, .keep])] v53_0 F53_0 w53_0 ok53_0]
def s52_0_15 : List (Nat × Pat) := [(4, (.ptr 0 0 88 [.keep, .keep, .keep, .keep, .keep])), (7, (.ptr 1 0 130 [.keep, .keep])), (8, (.ptr 2 0 130 [.keep, .keep])), (9, (.ptr 3 0 88 [.keep, .keep, .keep, .keep, .keep])), (10, .keep), (11, .keep), (13, .keep), (14, .keep)]
def s52_0_10 : List (Nat × Pat) := [(4, (.ptr 0 0 88 [.keep, .keep, .keep, .keep, .keep])), (7, (.ptr 1 0 130 [.keep, .keep])), (8, (.ptr 2 0 130 [.keep, .keep])), (9, (.ptr 3 0 88 [.keep, .keep, .keep, .keep, .keep])), (10, .keep), (11, .keep)]
def s52_0_7 : List (Nat × Pat) := [(4, (.ptr 0 0 88 [.keep, .keep, .keep, .keep, .keep])), (7, (.ptr 1 0 130 [.keep, .keep])), (8, (.ptr 2 0 130 [.keep, .keep])), (9, (.ptr 3 0 88 [.keep, .keep, .keep, .keep, .keep])), (10, .keep)]
noncomputable def L52_0 (n id : Nat) (st : St G) : Option (Bool × Int × Int × Int × Int) := match Nat.beq id 7 with | true => cutK Try.prog s52_0_7 [] c52_0_7.dec (K52_0 n).1 st | false => match Nat.beq id 10 with | true => cutK Try.prog s52_0_10 [] c52_0_10.dec (K52_0 n).2.1 st | false => match Nat.beq id 15 with | true => cutK Try.prog s52_0_15 [] c52_0_15.dec (K52_0 n).2.2 st | false => none
set_option maxRecDepth 100000 in
theorem e52_0 (n : Nat) (v : Int × Int) : ev Try.prog E (oracle k52_0) Try.f52.ntmps (fun x => mem x [7, 10, 15]) (L52_0 n) (finA Try.prog E Try.f52.results.toList [] w52_0.alts) 4000 [.code (Try.f52.body.getD .skip)] (argSt (v52_0.enc v)) = E52_0 (K52_0 n) v := by kernel_rfl
set_option maxRecDepth 100000 in
theorem b52_0_7 (n : Nat) (v : Int × (Bool × Int × Int × Int × Int) × (Int × Int) × (Int × Int) × Bool × Int × Int × Int × Int) : evCut Try.prog E (oracle k52_0) Try.f52.ntmps (fun x => mem x [7, 10, 15]) (L52_0 n) (finA Try.prog E Try.f52.results.toList [] w52_0.alts) 4000 (todoAt (Try.f52.body.getD .skip) 7) (cutSt s52_0_7 (c52_0_7.enc v)) = B52_0_7 (K52_0 n) v := by kernel_rfl
set_option maxRecDepth 100000 in
theorem b52_0_10 (n : Nat) (v : (Int × Int) × (Bool × Int × Int × Int × Int) × (Int × Int) × (Int × Int) × Bool × Int × Int × Int × Int) : evCut Try.prog E (oracle k52_0) Try.f52.ntmps (fun x => mem x [7, 10, 15]) (L52_0 n) (finA Try.prog E Try.f52.results.toList [] w52_0.alts) 4000 (todoAt (Try.f52.body.getD .skip) 10) (cutSt s52_0_10 (c52_0_10.enc v)) = B52_0_10 (K52_0 n) v := by kernel_rfl
set_option maxRecDepth 100000 in
theorem b52_0_15 (n : Nat) (v : (Int × Int × Int × Int) × (Bool × Int × Int × Int × Int) × (Int × Int) × (Int × Int) × Bool × Int × Int × Int × Int) : evCut Try.prog E (oracle k52_0) Try.f52.ntmps (fun x => mem x [7, 10, 15]) (L52_0 n) (finA Try.prog E Try.f52.results.toList [] w52_0.alts) 4000 (todoAt (Try.f52.body.getD .skip) 15) (cutSt s52_0_15 (c52_0_15.enc v)) = B52_0_15 (K52_0 n) v := by kernel_rfl
theorem ok52_0 : FnOk Try.prog E 52 v52_0.enc F52_0 w52_0.enc :=
  fn_known (fn := Try.f52) (c := (Try.f52.body.getD .skip)) Try.func52 (by kernel_rfl) rfl envOk (oracle_ok k52_0) mixed v52_0 F52_0 w52_0 [] [7, 10, 15] 4000 L52_0 (by kernel_rfl)
    (List.forall_mem_cons.2 ⟨⟨_, s52_0_7, c52_0_7.dec, c52_0_7.enc, fun n => (K52_0 n).1, c52_0_7.ok, fun _ _ => rfl, fun _ => rfl, fun n v _ h => (b52_0_7 n v).trans h⟩, List.forall_mem_cons.2 ⟨⟨_, s52_0_10, c52_0_10.dec, c52_0_10.enc, fun n => (K52_0 n).2.1, c52_0_10.ok, fun _ _ => rfl, fun _ => rfl, fun n v _ h => (b52_0_10 n v).trans h⟩, List.forall_mem_cons.2 ⟨⟨_, s52_0_15, c52_0_15.dec, c52_0_15.enc, fun n => (K52_0 n).2.2, c52_0_15.ok, fun _ _ => rfl, fun _ => rfl, fun n v _ h => (b52_0_15 n v).trans h⟩, fun _ h => (nomatch h)⟩⟩⟩) (fun v _ h => ⟨fuel52_0 v, (e52_0 _ v).trans h⟩) (fun _ => by kernel_rfl) (fun _ => by kernel_rfl) (fun _ _ => by kernel_rfl)
/- chicane/chicaneref01.plus -/
abbrev A54_0 : Type := (Int × Int × Int × Int) × Int × Int × Int × Int
abbrev R54_0 : Type := (Int × Int × Int × Int) × Int
def v54_0 : Pk G ((Int × Int × Int × Int) × Int × Int × Int × Int) := (Pk.fst (pk (Sh.cons (Sh.agg (Sh.cons (Sh.int .u64) (Sh.cons (Sh.int .u64) (Sh.cons (Sh.int .u64) (Sh.fst (Sh.cons (Sh.int .u64) Sh.nil)))))) (Sh.fst (Sh.cons (Sh.agg (Sh.cons (Sh.int .u64) (Sh.cons (Sh.int .u64) (Sh.cons (Sh.int .u64) (Sh.fst (Sh.cons (Sh.int .u64) Sh.nil)))))) Sh.nil))) Sh.hnil))
def w54_0 : Wk G ((Int × Int × Int × Int) × Int) := (Wk.one [(.agg [.keep, .keep, .keep, .keep]), .keep] (Pk.fst (pk (Sh.cons (Sh.agg (Sh.cons (Sh.int .u64) (Sh.cons (Sh.int .u64) (Sh.cons (Sh.int .u64) (Sh.fst (Sh.cons (Sh.int .u64) Sh.nil)))))) (Sh.fst (Sh.cons (Sh.int .u64) Sh.nil))) Sh.hnil)))
def F54_0 (v : (Int × Int × Int × Int) × Int × Int × Int × Int) : Option ((Int × Int × Int × Int) × Int) :=
  let x781 : Int := (IntKind.wrap .u64 (v.1.1 + v.2.1))
  let x782 : Int := (IntKind.wrap .u64 (x781 + (0 : Int)))
  (F66_0 x782).bind fun r783 =>
  let x784 : Int := (IntKind.wrap .u64 (Int.tdiv x782 (4294967296 : Int)))
  let x785 : Int := (IntKind.wrap .u64 (v.1.2.1 + v.2.2.1))
  let x786 : Int := (IntKind.wrap .u64 (x785 + x784))
  (F66_0 x786).bind fun r787 =>
  let x788 : Int := (IntKind.wrap .u64 (Int.tdiv x786 (4294967296 : Int)))
  let x789 : Int := (IntKind.wrap .u64 (v.1.2.2.1 + v.2.2.2.1))
  let x790 : Int := (IntKind.wrap .u64 (x789 + x788))
  (F66_0 x790).bind fun r791 =>
  let x792 : Int := (IntKind.wrap .u64 (Int.tdiv x790 (4294967296 : Int)))
  let x793 : Int := (IntKind.wrap .u64 (v.1.2.2.2 + v.2.2.2.2))
  let x794 : Int := (IntKind.wrap .u64 (x793 + x792))
  (F66_0 x794).bind fun r795 =>
  let x796 : Int := (IntKind.wrap .u64 (Int.tdiv x794 (4294967296 : Int)))
  some ((r783, (r787, (r791, r795))), x796)

noncomputable def k54_0 : List (Known Try.prog E) := [Known.of envOk [1] [.keep] v66_0 F66_0 w66_0 ok66_0]
noncomputable def L54_0 (n id : Nat) (st : St G) : Option ((Int × Int × Int × Int) × Int) := none
set_option maxRecDepth 100000 in
theorem e54_0 (n : Nat) (v : (Int × Int × Int × Int) × Int × Int × Int × Int) : ev Try.prog E (oracle k54_0) Try.f54.ntmps (fun x => mem x []) (L54_0 n) (finA Try.prog E Try.f54.results.toList [] w54_0.alts) 4000 [.code (Try.f54.body.getD .skip)] (argSt (v54_0.enc v)) = F54_0 v := by kernel_rfl
theorem ok54_0 : FnOk Try.prog E 54 v54_0.enc F54_0 w54_0.enc :=
  fn_known (fn := Try.f54) (c := (Try.f54.body.getD .skip)) Try.func54 (by kernel_rfl) rfl envOk (oracle_ok k54_0) mixed v54_0 F54_0 w54_0 [] [] 4000 L54_0 (by kernel_rfl)
    (fun _ h => nomatch h) (fun v _ h => ⟨0, (e54_0 _ v).trans h⟩) (fun _ => by kernel_rfl) (fun _ => by kernel_rfl) (fun _ _ => by kernel_rfl)
/- chicane/chicaneref01.Words -/
abbrev A57_0 : Type := Bool × Int × Int × Int × Int
abbrev R57_0 : Type := Int × Int × Bool
def v57_0 : Pk G (Bool × Int × Int × Int × Int) := (Pk.fst (pk (Sh.fst (Sh.cons (Sh.agg (Sh.cons Sh.bool (Sh.cons (Sh.int .u64) (Sh.cons (Sh.int .u64) (Sh.cons (Sh.int .u64) (Sh.fst (Sh.cons (Sh.int .u64) Sh.nil))))))) Sh.nil)) Sh.hnil))
def w57_0 : Wk G (Int × Int × Bool) := (Wk.one [.keep, .keep, .keep] (Pk.fst (pk (Sh.cons (Sh.int .i64) (Sh.cons (Sh.int .u64) (Sh.fst (Sh.cons Sh.bool Sh.nil)))) Sh.hnil)))
def F57_0 (v : Bool × Int × Int × Int × Int) : Option (Int × Int × Bool) :=
  let x835 : Int := (IntKind.wrap .u64 (v.2.2.2.2 * (4294967296 : Int)))
  let x836 : Int := (IntKind.wrap .u64 (x835 + v.2.2.2.1))
  let x837 : Int := (IntKind.wrap .u64 (v.2.2.1 * (4294967296 : Int)))
  let x838 : Int := (IntKind.wrap .u64 (x837 + v.2.1))
  bif (decide (x836 > (9223372036854775808 : Int))) then
    some ((0 : Int), ((0 : Int), false))
  else
    bif (x836 == (9223372036854775808 : Int)) then
      bif (x838 != (0 : Int)) then
        some ((0 : Int), ((0 : Int), false))
      else
        bif (!v.1) then
          some ((0 : Int), ((0 : Int), false))
        else
          bif v.1 then
            let x839 : Int := (Go.bits .xor .u64 (18446744073709551615) x838)
            let x840 : Int := (IntKind.wrap .u64 (x839 + (1 : Int)))
            let x841 : Int := (Go.bits .xor .u64 (18446744073709551615) x836)
            bif (x840 == (0 : Int)) then
              let x842 : Int := (IntKind.wrap .u64 (x841 + (1 : Int)))
              let x843 : Int := (IntKind.wrap .i64 x842)
              some (x843, (x840, true))
            else
              let x844 : Int := (IntKind.wrap .i64 x841)
              some (x844, (x840, true))
          else
            let x845 : Int := (IntKind.wrap .i64 x836)
            some (x845, (x838, true))
    else
      bif v.1 then
        let x846 : Int := (Go.bits .xor .u64 (18446744073709551615) x838)
        let x847 : Int := (IntKind.wrap .u64 (x846 + (1 : Int)))
        let x848 : Int := (Go.bits .xor .u64 (18446744073709551615) x836)
        bif (x847 == (0 : Int)) then
          let x849 : Int := (IntKind.wrap .u64 (x848 + (1 : Int)))
          let x850 : Int := (IntKind.wrap .i64 x849)
          some (x850, (x847, true))
        else
          let x851 : Int := (IntKind.wrap .i64 x848)
          some (x851, (x847, true))
      else
        let x852 : Int := (IntKind.wrap .i64 x836)
        some (x852, (x838, true))

noncomputable def k57_0 : List (Known Try.prog E) := []
noncomputable def L57_0 (n id : Nat) (st : St G) : Option (Int × Int × Bool) := none
set_option maxRecDepth 100000 in
theorem e57_0 (n : Nat) (v : Bool × Int × Int × Int × Int) : ev Try.prog E (oracle k57_0) Try.f57.ntmps (fun x => mem x []) (L57_0 n) (finA Try.prog E Try.f57.results.toList [] w57_0.alts) 4000 [.code (Try.f57.body.getD .skip)] (argSt (v57_0.enc v)) = F57_0 v := by kernel_rfl
theorem ok57_0 : FnOk Try.prog E 57 v57_0.enc F57_0 w57_0.enc :=
  fn_known (fn := Try.f57) (c := (Try.f57.body.getD .skip)) Try.func57 (by kernel_rfl) rfl envOk (oracle_ok k57_0) mixed v57_0 F57_0 w57_0 [] [] 4000 L57_0 (by kernel_rfl)
    (fun _ h => nomatch h) (fun v _ h => ⟨0, (e57_0 _ v).trans h⟩) (fun _ => by kernel_rfl) (fun _ => by kernel_rfl) (fun _ _ => by kernel_rfl)
/- chicane/chicaneref01.less -/
abbrev A55_0 : Type := (Int × Int × Int × Int) × Int × Int × Int × Int
abbrev R55_0 : Type := Bool
def v55_0 : Pk G ((Int × Int × Int × Int) × Int × Int × Int × Int) := (Pk.fst (pk (Sh.cons (Sh.agg (Sh.cons (Sh.int .u64) (Sh.cons (Sh.int .u64) (Sh.cons (Sh.int .u64) (Sh.fst (Sh.cons (Sh.int .u64) Sh.nil)))))) (Sh.fst (Sh.cons (Sh.agg (Sh.cons (Sh.int .u64) (Sh.cons (Sh.int .u64) (Sh.cons (Sh.int .u64) (Sh.fst (Sh.cons (Sh.int .u64) Sh.nil)))))) Sh.nil))) Sh.hnil))
def w55_0 : Wk G Bool := (Wk.one [.keep] (Pk.fst (pk (Sh.fst (Sh.cons Sh.bool Sh.nil)) Sh.hnil)))
def F55_0 (v : (Int × Int × Int × Int) × Int × Int × Int × Int) : Option Bool :=
  bif (v.1.2.2.2 != v.2.2.2.2) then
    some (decide (v.1.2.2.2 < v.2.2.2.2))
  else
    bif (v.1.2.2.1 != v.2.2.2.1) then
      some (decide (v.1.2.2.1 < v.2.2.2.1))
    else
      bif (v.1.2.1 != v.2.2.1) then
        some (decide (v.1.2.1 < v.2.2.1))
      else
        bif (v.1.1 != v.2.1) then
          some (decide (v.1.1 < v.2.1))
        else
          some (false)

noncomputable def k55_0 : List (Known Try.prog E) := []
noncomputable def L55_0 (n id : Nat) (st : St G) : Option Bool := none
set_option maxRecDepth 100000 in
theorem e55_0 (n : Nat) (v : (Int × Int × Int × Int) × Int × Int × Int × Int) : ev Try.prog E (oracle k55_0) Try.f55.ntmps (fun x => mem x []) (L55_0 n) (finA Try.prog E Try.f55.results.toList [] w55_0.alts) 4000 [.code (Try.f55.body.getD .skip)] (argSt (v55_0.enc v)) = F55_0 v := by kernel_rfl
theorem ok55_0 : FnOk Try.prog E 55 v55_0.enc F55_0 w55_0.enc :=
  fn_known (fn := Try.f55) (c := (Try.f55.body.getD .skip)) Try.func55 (by kernel_rfl) rfl envOk (oracle_ok k55_0) mixed v55_0 F55_0 w55_0 [] [] 4000 L55_0 (by kernel_rfl)
    (fun _ h => nomatch h) (fun v _ h => ⟨0, (e55_0 _ v).trans h⟩) (fun _ => by kernel_rfl) (fun _ => by kernel_rfl) (fun _ _ => by kernel_rfl)
/- chicane/chicaneref01.minus -/
abbrev A56_0 : Type := (Int × Int × Int × Int) × Int × Int × Int × Int
abbrev R56_0 : Type := Int × Int × Int × Int
def v56_0 : Pk G ((Int × Int × Int × Int) × Int × Int × Int × Int) := (Pk.fst (pk (Sh.cons (Sh.agg (Sh.cons (Sh.int .u64) (Sh.cons (Sh.int .u64) (Sh.cons (Sh.int .u64) (Sh.fst (Sh.cons (Sh.int .u64) Sh.nil)))))) (Sh.fst (Sh.cons (Sh.agg (Sh.cons (Sh.int .u64) (Sh.cons (Sh.int .u64) (Sh.cons (Sh.int .u64) (Sh.fst (Sh.cons (Sh.int .u64) Sh.nil)))))) Sh.nil))) Sh.hnil))
def w56_0 : Wk G (Int × Int × Int × Int) := (Wk.one [(.agg [.keep, .keep, .keep, .keep])] (Pk.fst (pk (Sh.fst (Sh.cons (Sh.agg (Sh.cons (Sh.int .u64) (Sh.cons (Sh.int .u64) (Sh.cons (Sh.int .u64) (Sh.fst (Sh.cons (Sh.int .u64) Sh.nil)))))) Sh.nil)) Sh.hnil)))
def F56_0 (v : (Int × Int × Int × Int) × Int × Int × Int × Int) : Option (Int × Int × Int × Int) :=
  let x904 : Int := (IntKind.wrap .u64 (v.1.1 + (4294967296 : Int)))
  let x905 : Int := (IntKind.wrap .u64 (x904 - v.2.1))
  let x906 : Int := (IntKind.wrap .u64 (x905 - (0 : Int)))
  (F66_0 x906).bind fun r907 =>
  let x908 : Int := (IntKind.wrap .u64 (Int.tdiv x906 (4294967296 : Int)))
  let x909 : Int := (IntKind.wrap .u64 ((1 : Int) - x908))
  let x910 : Int := (IntKind.wrap .u64 (v.1.2.1 + (4294967296 : Int)))
  let x911 : Int := (IntKind.wrap .u64 (x910 - v.2.2.1))
  let x912 : Int := (IntKind.wrap .u64 (x911 - x909))
  (F66_0 x912).bind fun r913 =>
  let x914 : Int := (IntKind.wrap .u64 (Int.tdiv x912 (4294967296 : Int)))
  let x915 : Int := (IntKind.wrap .u64 ((1 : Int) - x914))
  let x916 : Int := (IntKind.wrap .u64 (v.1.2.2.1 + (4294967296 : Int)))
  let x917 : Int := (IntKind.wrap .u64 (x916 - v.2.2.2.1))
  let x918 : Int := (IntKind.wrap .u64 (x917 - x915))
  (F66_0 x918).bind fun r919 =>
  let x920 : Int := (IntKind.wrap .u64 (Int.tdiv x918 (4294967296 : Int)))
  let x921 : Int := (IntKind.wrap .u64 ((1 : Int) - x920))
  let x922 : Int := (IntKind.wrap .u64 (v.1.2.2.2 + (4294967296 : Int)))
  let x923 : Int := (IntKind.wrap .u64 (x922 - v.2.2.2.2))
  let x924 : Int := (IntKind.wrap .u64 (x923 - x921))
  (F66_0 x924).bind fun r925 =>
  some (r907, (r913, (r919, r925)))

noncomputable def k56_0 : List (Known Try.prog E) := [Known.of envOk [1] [.keep] v66_0 F66_0 w66_0 ok66_0]
noncomputable def L56_0 (n id : Nat) (st : St G) : Option (Int × Int × Int × Int) := none
set_option maxRecDepth 100000 in
theorem e56_0 (n : Nat) (v : (Int × Int × Int × Int) × Int × Int × Int × Int) : ev Try.prog E (oracle k56_0) Try.f56.ntmps (fun x => mem x []) (L56_0 n) (finA Try.prog E Try.f56.results.toList [] w56_0.alts) 4000 [.code (Try.f56.body.getD .skip)] (argSt (v56_0.enc v)) = F56_0 v := by kernel_rfl
theorem ok56_0 : FnOk Try.prog E 56 v56_0.enc F56_0 w56_0.enc :=
  fn_known (fn := Try.f56) (c := (Try.f56.body.getD .skip)) Try.func56 (by kernel_rfl) rfl envOk (oracle_ok k56_0) mixed v56_0 F56_0 w56_0 [] [] 4000 L56_0 (by kernel_rfl)
    (fun _ h => nomatch h) (fun v _ h => ⟨0, (e56_0 _ v).trans h⟩) (fun _ => by kernel_rfl) (fun _ => by kernel_rfl) (fun _ _ => by kernel_rfl)
/- chicane/chicaneref01.Add -/
abbrev A38_0 : Type := (Bool × Int × Int × Int × Int) × Bool × Int × Int × Int × Int
abbrev R38_0 : Type := (Bool × Int × Int × Int × Int) × Bool
def v38_0 : Pk G ((Bool × Int × Int × Int × Int) × Bool × Int × Int × Int × Int) := (Pk.fst (pk (Sh.cons (Sh.agg (Sh.cons Sh.bool (Sh.cons (Sh.int .u64) (Sh.cons (Sh.int .u64) (Sh.cons (Sh.int .u64) (Sh.fst (Sh.cons (Sh.int .u64) Sh.nil))))))) (Sh.fst (Sh.cons (Sh.agg (Sh.cons Sh.bool (Sh.cons (Sh.int .u64) (Sh.cons (Sh.int .u64) (Sh.cons (Sh.int .u64) (Sh.fst (Sh.cons (Sh.int .u64) Sh.nil))))))) Sh.nil))) Sh.hnil))
def w38_0 : Wk G ((Bool × Int × Int × Int × Int) × Bool) := (Wk.one [(.agg [.keep, .keep, .keep, .keep, .keep]), .keep] (Pk.fst (pk (Sh.cons (Sh.agg (Sh.cons Sh.bool (Sh.cons (Sh.int .u64) (Sh.cons (Sh.int .u64) (Sh.cons (Sh.int .u64) (Sh.fst (Sh.cons (Sh.int .u64) Sh.nil))))))) (Sh.fst (Sh.cons Sh.bool Sh.nil))) Sh.hnil)))
def F38_0 (v : (Bool × Int × Int × Int × Int) × Bool × Int × Int × Int × Int) : Option ((Bool × Int × Int × Int × Int) × Bool) :=
  bif (v.1.1 == v.2.1) then
    (F54_0 (v.1.2, v.2.2)).bind fun r949 =>
    (F53_0 (v.1.1, r949.1)).bind fun r950 =>
    bif r950 then
      (F57_0 (false, r949.1)).bind fun r951 =>
      bif (!(r949.2 == (0 : Int))) then
        some ((false, ((0 : Int), ((0 : Int), ((0 : Int), (0 : Int))))), false)
      else
        bif (!r951.2.2) then
          some ((false, ((0 : Int), ((0 : Int), ((0 : Int), (0 : Int))))), false)
        else
          some ((false, r949.1), true)
    else
      (F57_0 (v.1.1, r949.1)).bind fun r952 =>
      bif (!(r949.2 == (0 : Int))) then
        some ((false, ((0 : Int), ((0 : Int), ((0 : Int), (0 : Int))))), false)
      else
        bif (!r952.2.2) then
          some ((false, ((0 : Int), ((0 : Int), ((0 : Int), (0 : Int))))), false)
        else
          some ((v.1.1, r949.1), true)
  else
    (F55_0 (v.1.2, v.2.2)).bind fun r953 =>
    bif r953 then
      (F56_0 (v.2.2, v.1.2)).bind fun r954 =>
      (F53_0 (v.2.1, r954)).bind fun r955 =>
      bif r955 then
        (F57_0 (false, r954)).bind fun r956 =>
        bif (!r956.2.2) then
          some ((false, ((0 : Int), ((0 : Int), ((0 : Int), (0 : Int))))), false)
        else
          some ((false, r954), true)
      else
        (F57_0 (v.2.1, r954)).bind fun r957 =>
        bif (!r957.2.2) then
          some ((false, ((0 : Int), ((0 : Int), ((0 : Int), (0 : Int))))), false)
        else
          some ((v.2.1, r954), true)
    else
      (F56_0 (v.1.2, v.2.2)).bind fun r958 =>
      (F53_0 (v.1.1, r958)).bind fun r959 =>
      bif r959 then
        (F57_0 (false, r958)).bind fun r960 =>
        bif (!r960.2.2) then
          some ((false, ((0 : Int), ((0 : Int), ((0 : Int), (0 : Int))))), false)
        else
          some ((false, r958), true)
      else
        (F57_0 (v.1.1, r958)).bind fun r961 =>
        bif (!r961.2.2) then
          some ((false, ((0 : Int), ((0 : Int), ((0 : Int), (0 : Int))))), false)
        else
          some ((v.1.1, r958), true)

noncomputable def k38_0 : List (Known Try.prog E) := [Known.of envOk [9, 9] [(.agg [.keep, .keep, .keep, .keep]), (.agg [.keep, .keep, .keep, .keep])] v54_0 F54_0 w54_0 ok54_0, Known.of envOk [9] [(.agg [.keep, .keep, .keep, .keep, .keep])] v53_0 F53_0 w53_0 ok53_0, Known.of envOk [9] [(.agg [.keep, .keep, .keep, .keep, .keep])] v57_0 F57_0 w57_0 ok57_0, Known.of envOk [9, 9] [(.agg [.keep, .keep, .keep, .keep]), (.agg [.keep, .keep, .keep, .keep])] v55_0 F55_0 w55_0 ok55_0, Known.of envOk [9, 9] [(.agg [.keep, .keep, .keep, .keep]), (.agg [.keep, .keep, .keep, .keep])] v56_0 F56_0 w56_0 ok56_0]
noncomputable def L38_0 (n id : Nat) (st : St G) : Option ((Bool × Int × Int × Int × Int) × Bool) := none
set_option maxRecDepth 100000 in
theorem e38_0 (n : Nat) (v : (Bool × Int × Int × Int × Int) × Bool × Int × Int × Int × Int) : ev Try.prog E (oracle k38_0) Try.f38.ntmps (fun x => mem x []) (L38_0 n) (finA Try.prog E Try.f38.results.toList [] w38_0.alts) 4000 [.code (Try.f38.body.getD .skip)] (argSt (v38_0.enc v)) = F38_0 v := by kernel_rfl
theorem ok38_0 : FnOk Try.prog E 38 v38_0.enc F38_0 w38_0.enc :=
  fn_known (fn := Try.f38) (c := (Try.f38.body.getD .skip)) Try.func38 (by kernel_rfl) rfl envOk (oracle_ok k38_0) mixed v38_0 F38_0 w38_0 [] [] 4000 L38_0 (by kernel_rfl)
    (fun _ h => nomatch h) (fun v _ h => ⟨0, (e38_0 _ v).trans h⟩) (fun _ => by kernel_rfl) (fun _ => by kernel_rfl) (fun _ _ => by kernel_rfl)
/- chicane/chicaneref07.Area -/
abbrev A35_0 : Type := (Int × Int) × (Int × Int) × Int × Int
abbrev R35_0 : Type := Bool × Int × Int × Int × Int
def v35_0 : Pk G ((Int × Int) × (Int × Int) × Int × Int) := (Pk.fst (pk (Sh.cons (Sh.agg (Sh.cons (Sh.int .i64) (Sh.fst (Sh.cons (Sh.int .i64) Sh.nil)))) (Sh.cons (Sh.agg (Sh.cons (Sh.int .i64) (Sh.fst (Sh.cons (Sh.int .i64) Sh.nil)))) (Sh.fst (Sh.cons (Sh.agg (Sh.cons (Sh.int .i64) (Sh.fst (Sh.cons (Sh.int .i64) Sh.nil)))) Sh.nil)))) Sh.hnil))
def w35_0 : Wk G (Bool × Int × Int × Int × Int) := (Wk.one [(.agg [.keep, .keep, .keep, .keep, .keep])] (Pk.fst (pk (Sh.fst (Sh.cons (Sh.agg (Sh.cons Sh.bool (Sh.cons (Sh.int .u64) (Sh.cons (Sh.int .u64) (Sh.cons (Sh.int .u64) (Sh.fst (Sh.cons (Sh.int .u64) Sh.nil))))))) Sh.nil)) Sh.hnil)))
def F35_0 (v : (Int × Int) × (Int × Int) × Int × Int) : Option (Bool × Int × Int × Int × Int) :=
  let x979 : Int := (IntKind.wrap .i64 (v.2.1.2 - v.1.2))
  let x980 : Int := (IntKind.wrap .i64 (v.2.2.1 - v.1.1))
  (F52_0 (x979, x980)).bind fun r981 =>
  (F53_0 ((!r981.1), r981.2)).bind fun r982 =>
  bif r982 then
    let x983 : Int := (IntKind.wrap .i64 (v.2.1.1 - v.1.1))
    let x984 : Int := (IntKind.wrap .i64 (v.2.2.2 - v.1.2))
    (F52_0 (x983, x984)).bind fun r985 =>
    (F38_0 (r985, (false, r981.2))).bind fun r986 =>
    some (r986.1)
  else
    let x987 : Int := (IntKind.wrap .i64 (v.2.1.1 - v.1.1))
    let x988 : Int := (IntKind.wrap .i64 (v.2.2.2 - v.1.2))
    (F52_0 (x987, x988)).bind fun r989 =>
    (F38_0 (r989, ((!r981.1), r981.2))).bind fun r990 =>
    some (r990.1)

noncomputable def k35_0 : List (Known Try.prog E) := [Known.of envOk [1, 1] [.keep, .keep] v52_0 F52_0 w52_0 ok52_0, Known.of envOk [9] [(.agg [.keep, .keep, .keep, .keep, .keep])] v53_0 F53_0 w53_0 ok53_0, Known.of envOk [9, 9] [(.agg [.keep, .keep, .keep, .keep, .keep]), (.agg [.keep, .keep, .keep, .keep, .keep])] v38_0 F38_0 w38_0 ok38_0]
noncomputable def L35_0 (n id : Nat) (st : St G) : Option (Bool × Int × Int × Int × Int) := none
set_option maxRecDepth 100000 in
theorem e35_0 (n : Nat) (v : (Int × Int) × (Int × Int) × Int × Int) : ev Try.prog E (oracle k35_0) Try.f35.ntmps (fun x => mem x []) (L35_0 n) (finA Try.prog E Try.f35.results.toList [] w35_0.alts) 4000 [.code (Try.f35.body.getD .skip)] (argSt (v35_0.enc v)) = F35_0 v := by kernel_rfl
theorem ok35_0 : FnOk Try.prog E 35 v35_0.enc F35_0 w35_0.enc :=
  fn_known (fn := Try.f35) (c := (Try.f35.body.getD .skip)) Try.func35 (by kernel_rfl) rfl envOk (oracle_ok k35_0) mixed v35_0 F35_0 w35_0 [] [] 4000 L35_0 (by kernel_rfl)
    (fun _ h => nomatch h) (fun v _ h => ⟨0, (e35_0 _ v).trans h⟩) (fun _ => by kernel_rfl) (fun _ => by kernel_rfl) (fun _ _ => by kernel_rfl)
/- chicane/chicaneref01.Sign -/
abbrev A36_0 : Type := Bool × Int × Int × Int × Int
abbrev R36_0 : Type := Int
def v36_0 : Pk G (Bool × Int × Int × Int × Int) := (Pk.fst (pk (Sh.fst (Sh.cons (Sh.agg (Sh.cons Sh.bool (Sh.cons (Sh.int .u64) (Sh.cons (Sh.int .u64) (Sh.cons (Sh.int .u64) (Sh.fst (Sh.cons (Sh.int .u64) Sh.nil))))))) Sh.nil)) Sh.hnil))
def w36_0 : Wk G Int := (Wk.one [.keep] (Pk.fst (pk (Sh.fst (Sh.cons (Sh.int .i64) Sh.nil)) Sh.hnil)))
def F36_0 (v : Bool × Int × Int × Int × Int) : Option Int :=
  (F53_0 v).bind fun r995 =>
  bif r995 then
    some (0 : Int)
  else
    bif v.1 then
      some (-1 : Int)
    else
      some (1 : Int)

noncomputable def k36_0 : List (Known Try.prog E) := [Known.of envOk [9] [(.agg [.keep, .keep, .keep, .keep, .keep])] v53_0 F53_0 w53_0 ok53_0]
noncomputable def L36_0 (n id : Nat) (st : St G) : Option Int := none
set_option maxRecDepth 100000 in
theorem e36_0 (n : Nat) (v : Bool × Int × Int × Int × Int) : ev Try.prog E (oracle k36_0) Try.f36.ntmps (fun x => mem x []) (L36_0 n) (finA Try.prog E Try.f36.results.toList [] w36_0.alts) 4000 [.code (Try.f36.body.getD .skip)] (argSt (v36_0.enc v)) = F36_0 v := by kernel_rfl
theorem ok36_0 : FnOk Try.prog E 36 v36_0.enc F36_0 w36_0.enc :=
  fn_known (fn := Try.f36) (c := (Try.f36.body.getD .skip)) Try.func36 (by kernel_rfl) rfl envOk (oracle_ok k36_0) mixed v36_0 F36_0 w36_0 [] [] 4000 L36_0 (by kernel_rfl)
    (fun _ h => nomatch h) (fun v _ h => ⟨0, (e36_0 _ v).trans h⟩) (fun _ => by kernel_rfl) (fun _ => by kernel_rfl) (fun _ _ => by kernel_rfl)
/- chicane/chicaneref07.Side -/
abbrev A37_0 : Type := (Int × Int) × (Int × Int) × Int × Int
abbrev R37_0 : Type := Int
def v37_0 : Pk G ((Int × Int) × (Int × Int) × Int × Int) := (Pk.fst (pk (Sh.cons (Sh.agg (Sh.cons (Sh.int .i64) (Sh.fst (Sh.cons (Sh.int .i64) Sh.nil)))) (Sh.cons (Sh.agg (Sh.cons (Sh.int .i64) (Sh.fst (Sh.cons (Sh.int .i64) Sh.nil)))) (Sh.fst (Sh.cons (Sh.agg (Sh.cons (Sh.int .i64) (Sh.fst (Sh.cons (Sh.int .i64) Sh.nil)))) Sh.nil)))) Sh.hnil))
def w37_0 : Wk G Int := (Wk.one [.keep] (Pk.fst (pk (Sh.fst (Sh.cons (Sh.int .i64) Sh.nil)) Sh.hnil)))
def F37_0 (v : (Int × Int) × (Int × Int) × Int × Int) : Option Int :=
  (F34_0 ([v.1, v.2.1, v.2.2] : List (Int × Int))).bind fun r1004 =>
  bif (!r1004) then
    some (0 : Int)
  else
    (F35_0 v).bind fun r1005 =>
    (F36_0 r1005).bind fun r1006 =>
    some (r1006)

noncomputable def k37_0 : List (Known Try.prog E) := [Known.of envOk [7] [(.ros 25)] v34_0 F34_0 w34_0 ok34_0, Known.of envOk [9, 9, 9] [(.agg [.keep, .keep]), (.agg [.keep, .keep]), (.agg [.keep, .keep])] v35_0 F35_0 w35_0 ok35_0, Known.of envOk [9] [(.agg [.keep, .keep, .keep, .keep, .keep])] v36_0 F36_0 w36_0 ok36_0]
noncomputable def L37_0 (n id : Nat) (st : St G) : Option Int := none
set_option maxRecDepth 100000 in
theorem e37_0 (n : Nat) (v : (Int × Int) × (Int × Int) × Int × Int) : ev Try.prog E (oracle k37_0) Try.f37.ntmps (fun x => mem x []) (L37_0 n) (finA Try.prog E Try.f37.results.toList [] w37_0.alts) 4000 [.code (Try.f37.body.getD .skip)] (argSt (v37_0.enc v)) = F37_0 v := by kernel_rfl
theorem ok37_0 : FnOk Try.prog E 37 v37_0.enc F37_0 w37_0.enc :=
  fn_known (fn := Try.f37) (c := (Try.f37.body.getD .skip)) Try.func37 (by kernel_rfl) rfl envOk (oracle_ok k37_0) mixed v37_0 F37_0 w37_0 [] [] 4000 L37_0 (by kernel_rfl)
    (fun _ h => nomatch h) (fun v _ h => ⟨0, (e37_0 _ v).trans h⟩) (fun _ => by kernel_rfl) (fun _ => by kernel_rfl) (fun _ _ => by kernel_rfl)
/- chicane/chicaneref07.opposite -/
abbrev A39_0 : Type := Bool × Int × Int × Int × Int
abbrev R39_0 : Type := Bool × Int × Int × Int × Int
def v39_0 : Pk G (Bool × Int × Int × Int × Int) := (Pk.fst (pk (Sh.fst (Sh.cons (Sh.agg (Sh.cons Sh.bool (Sh.cons (Sh.int .u64) (Sh.cons (Sh.int .u64) (Sh.cons (Sh.int .u64) (Sh.fst (Sh.cons (Sh.int .u64) Sh.nil))))))) Sh.nil)) Sh.hnil))
def w39_0 : Wk G (Bool × Int × Int × Int × Int) := (Wk.one [(.agg [.keep, .keep, .keep, .keep, .keep])] (Pk.fst (pk (Sh.fst (Sh.cons (Sh.agg (Sh.cons Sh.bool (Sh.cons (Sh.int .u64) (Sh.cons (Sh.int .u64) (Sh.cons (Sh.int .u64) (Sh.fst (Sh.cons (Sh.int .u64) Sh.nil))))))) Sh.nil)) Sh.hnil)))
def F39_0 (v : Bool × Int × Int × Int × Int) : Option (Bool × Int × Int × Int × Int) :=
  bif (!v.1) then
    (F53_0 v).bind fun r1011 =>
    some ((!r1011), v.2)
  else
    some (false, v.2)

noncomputable def k39_0 : List (Known Try.prog E) := [Known.of envOk [9] [(.agg [.keep, .keep, .keep, .keep, .keep])] v53_0 F53_0 w53_0 ok53_0]
noncomputable def L39_0 (n id : Nat) (st : St G) : Option (Bool × Int × Int × Int × Int) := none
set_option maxRecDepth 100000 in
theorem e39_0 (n : Nat) (v : Bool × Int × Int × Int × Int) : ev Try.prog E (oracle k39_0) Try.f39.ntmps (fun x => mem x []) (L39_0 n) (finA Try.prog E Try.f39.results.toList [] w39_0.alts) 4000 [.code (Try.f39.body.getD .skip)] (argSt (v39_0.enc v)) = F39_0 v := by kernel_rfl
theorem ok39_0 : FnOk Try.prog E 39 v39_0.enc F39_0 w39_0.enc :=
  fn_known (fn := Try.f39) (c := (Try.f39.body.getD .skip)) Try.func39 (by kernel_rfl) rfl envOk (oracle_ok k39_0) mixed v39_0 F39_0 w39_0 [] [] 4000 L39_0 (by kernel_rfl)
    (fun _ h => nomatch h) (fun v _ h => ⟨0, (e39_0 _ v).trans h⟩) (fun _ => by kernel_rfl) (fun _ => by kernel_rfl) (fun _ _ => by kernel_rfl)
/- chicane/chicaneref01.Cmp -/
abbrev A58_0 : Type := (Bool × Int × Int × Int × Int) × Bool × Int × Int × Int × Int
abbrev R58_0 : Type := Int
def v58_0 : Pk G ((Bool × Int × Int × Int × Int) × Bool × Int × Int × Int × Int) := (Pk.fst (pk (Sh.cons (Sh.agg (Sh.cons Sh.bool (Sh.cons (Sh.int .u64) (Sh.cons (Sh.int .u64) (Sh.cons (Sh.int .u64) (Sh.fst (Sh.cons (Sh.int .u64) Sh.nil))))))) (Sh.fst (Sh.cons (Sh.agg (Sh.cons Sh.bool (Sh.cons (Sh.int .u64) (Sh.cons (Sh.int .u64) (Sh.cons (Sh.int .u64) (Sh.fst (Sh.cons (Sh.int .u64) Sh.nil))))))) Sh.nil))) Sh.hnil))
def w58_0 : Wk G Int := (Wk.one [.keep] (Pk.fst (pk (Sh.fst (Sh.cons (Sh.int .i64) Sh.nil)) Sh.hnil)))
def F58_0 (v : (Bool × Int × Int × Int × Int) × Bool × Int × Int × Int × Int) : Option Int :=
  (F36_0 v.1).bind fun r1028 =>
  (F36_0 v.2).bind fun r1029 =>
  bif (r1028 != r1029) then
    (F36_0 v.1).bind fun r1030 =>
    (F36_0 v.2).bind fun r1031 =>
    bif (decide (r1030 < r1031)) then
      some (-1 : Int)
    else
      some (1 : Int)
  else
    let x1032 : Bool := ((v.1.2.1 == v.2.2.1) && ((v.1.2.2.1 == v.2.2.2.1) && ((v.1.2.2.2.1 == v.2.2.2.2.1) && ((v.1.2.2.2.2 == v.2.2.2.2.2) && true))))
    bif x1032 then
      some (0 : Int)
    else
      (F55_0 (v.1.2, v.2.2)).bind fun r1033 =>
      bif (r1033 == v.1.1) then
        some (1 : Int)
      else
        some (-1 : Int)

noncomputable def k58_0 : List (Known Try.prog E) := [Known.of envOk [9] [(.agg [.keep, .keep, .keep, .keep, .keep])] v36_0 F36_0 w36_0 ok36_0, Known.of envOk [9, 9] [(.agg [.keep, .keep, .keep, .keep]), (.agg [.keep, .keep, .keep, .keep])] v55_0 F55_0 w55_0 ok55_0]
noncomputable def L58_0 (n id : Nat) (st : St G) : Option Int := none
set_option maxRecDepth 100000 in
theorem e58_0 (n : Nat) (v : (Bool × Int × Int × Int × Int) × Bool × Int × Int × Int × Int) : ev Try.prog E (oracle k58_0) Try.f58.ntmps (fun x => mem x []) (L58_0 n) (finA Try.prog E Try.f58.results.toList [] w58_0.alts) 4000 [.code (Try.f58.body.getD .skip)] (argSt (v58_0.enc v)) = F58_0 v := by kernel_rfl
theorem ok58_0 : FnOk Try.prog E 58 v58_0.enc F58_0 w58_0.enc :=
  fn_known (fn := Try.f58) (c := (Try.f58.body.getD .skip)) Try.func58 (by kernel_rfl) rfl envOk (oracle_ok k58_0) mixed v58_0 F58_0 w58_0 [] [] 4000 L58_0 (by kernel_rfl)
    (fun _ h => nomatch h) (fun v _ h => ⟨0, (e58_0 _ v).trans h⟩) (fun _ => by kernel_rfl) (fun _ => by kernel_rfl) (fun _ _ => by kernel_rfl)
/- chicane/chicaneref01.twice -/
abbrev A59_0 : Type := (Int × Int × Int × Int) × Int
abbrev R59_0 : Type := Int × Int × Int × Int
def v59_0 : Pk G ((Int × Int × Int × Int) × Int) := (Pk.fst (pk (Sh.cons (Sh.agg (Sh.cons (Sh.int .u64) (Sh.cons (Sh.int .u64) (Sh.cons (Sh.int .u64) (Sh.fst (Sh.cons (Sh.int .u64) Sh.nil)))))) (Sh.fst (Sh.cons (Sh.int .u64) Sh.nil))) Sh.hnil))
def w59_0 : Wk G (Int × Int × Int × Int) := (Wk.one [(.agg [.keep, .keep, .keep, .keep])] (Pk.fst (pk (Sh.fst (Sh.cons (Sh.agg (Sh.cons (Sh.int .u64) (Sh.cons (Sh.int .u64) (Sh.cons (Sh.int .u64) (Sh.fst (Sh.cons (Sh.int .u64) Sh.nil)))))) Sh.nil)) Sh.hnil)))
def F59_0 (v : (Int × Int × Int × Int) × Int) : Option (Int × Int × Int × Int) :=
  let x1068 : Int := (IntKind.wrap .u64 ((2 : Int) * v.1.1))
  let x1069 : Int := (IntKind.wrap .u64 (x1068 + v.2))
  (F66_0 x1069).bind fun r1070 =>
  let x1071 : Int := (IntKind.wrap .u64 (Int.tdiv x1069 (4294967296 : Int)))
  let x1072 : Int := (IntKind.wrap .u64 ((2 : Int) * v.1.2.1))
  let x1073 : Int := (IntKind.wrap .u64 (x1072 + x1071))
  (F66_0 x1073).bind fun r1074 =>
  let x1075 : Int := (IntKind.wrap .u64 (Int.tdiv x1073 (4294967296 : Int)))
  let x1076 : Int := (IntKind.wrap .u64 ((2 : Int) * v.1.2.2.1))
  let x1077 : Int := (IntKind.wrap .u64 (x1076 + x1075))
  (F66_0 x1077).bind fun r1078 =>
  let x1079 : Int := (IntKind.wrap .u64 (Int.tdiv x1077 (4294967296 : Int)))
  let x1080 : Int := (IntKind.wrap .u64 ((2 : Int) * v.1.2.2.2))
  let x1081 : Int := (IntKind.wrap .u64 (x1080 + x1079))
  (F66_0 x1081).bind fun r1082 =>
  some (r1070, (r1074, (r1078, r1082)))

noncomputable def k59_0 : List (Known Try.prog E) := [Known.of envOk [1] [.keep] v66_0 F66_0 w66_0 ok66_0]
noncomputable def L59_0 (n id : Nat) (st : St G) : Option (Int × Int × Int × Int) := none
set_option maxRecDepth 100000 in
theorem e59_0 (n : Nat) (v : (Int × Int × Int × Int) × Int) : ev Try.prog E (oracle k59_0) Try.f59.ntmps (fun x => mem x []) (L59_0 n) (finA Try.prog E Try.f59.results.toList [] w59_0.alts) 4000 [.code (Try.f59.body.getD .skip)] (argSt (v59_0.enc v)) = F59_0 v := by kernel_rfl
theorem ok59_0 : FnOk Try.prog E 59 v59_0.enc F59_0 w59_0.enc :=
  fn_known (fn := Try.f59) (c := (Try.f59.body.getD .skip)) Try.func59 (by kernel_rfl) rfl envOk (oracle_ok k59_0) mixed v59_0 F59_0 w59_0 [] [] 4000 L59_0 (by kernel_rfl)
    (fun _ h => nomatch h) (fun v _ h => ⟨0, (e59_0 _ v).trans h⟩) (fun _ => by kernel_rfl) (fun _ => by kernel_rfl) (fun _ _ => by kernel_rfl)
/- chicane/chicaneref01.Part -/
abbrev A40_0 : Type := (Bool × Int × Int × Int × Int) × Bool × Int × Int × Int × Int
abbrev R40_0 : Type := Int
def v40_0 : Pk G ((Bool × Int × Int × Int × Int) × Bool × Int × Int × Int × Int) := (Pk.fst (pk (Sh.cons (Sh.agg (Sh.cons Sh.bool (Sh.cons (Sh.int .u64) (Sh.cons (Sh.int .u64) (Sh.cons (Sh.int .u64) (Sh.fst (Sh.cons (Sh.int .u64) Sh.nil))))))) (Sh.fst (Sh.cons (Sh.agg (Sh.cons Sh.bool (Sh.cons (Sh.int .u64) (Sh.cons (Sh.int .u64) (Sh.cons (Sh.int .u64) (Sh.fst (Sh.cons (Sh.int .u64) Sh.nil))))))) Sh.nil))) Sh.hnil))
def w40_0 : Wk G Int := (Wk.one [.keep] (Pk.fst (pk (Sh.fst (Sh.cons (Sh.int .u32) Sh.nil)) Sh.hnil)))
def c40_0_6 : Pk G ((Int × Int) × (Int × Int × Int × Int) × Bool × Int × Int × Int × Int) := (pk (Sh.snd (Sh.cons (Sh.ptr 0 0) (Sh.cons (Sh.int .u32) (Sh.snd (Sh.cons (Sh.ptr 1 0) (Sh.fst (Sh.cons (Sh.int .i64) Sh.nil))))))) (Sh.hfix 1 86 (Sh.cons (Sh.int .u64) (Sh.cons (Sh.int .u64) (Sh.cons (Sh.int .u64) (Sh.fst (Sh.cons (Sh.int .u64) Sh.nil))))) (Sh.fst (Sh.hfix 0 88 (Sh.cons Sh.bool (Sh.cons (Sh.int .u64) (Sh.cons (Sh.int .u64) (Sh.cons (Sh.int .u64) (Sh.fst (Sh.cons (Sh.int .u64) Sh.nil)))))) Sh.hnil))))
def B40_0_6 (K : (((Int × Int) × (Int × Int × Int × Int) × Bool × Int × Int × Int × Int) → Option Int)) (v : (Int × Int) × (Int × Int × Int × Int) × Bool × Int × Int × Int × Int) : Option Int :=
  bif (decide (v.1.2 < (32 : Int))) then
    (F59_0 (v.2.1, (0 : Int))).bind fun r1103 =>
    let x1104 : Int := (IntKind.wrap .u32 ((2 : Int) * v.1.1))
    (F55_0 (r1103, v.2.2.2)).bind fun r1105 =>
    bif (!r1105) then
      (F56_0 (r1103, v.2.2.2)).bind fun r1106 =>
      let x1107 : Int := (IntKind.wrap .u32 (x1104 + (1 : Int)))
      let x1108 : Int := (IntKind.wrap .i64 (v.1.2 + (1 : Int)))
      K ((x1107, x1108), (r1106, v.2.2))
    else
      let x1109 : Int := (IntKind.wrap .i64 (v.1.2 + (1 : Int)))
      K ((x1104, x1109), (r1103, v.2.2))
  else
    some (v.1.1)

def E40_0 (K : (((Int × Int) × (Int × Int × Int × Int) × Bool × Int × Int × Int × Int) → Option Int)) (v : (Bool × Int × Int × Int × Int) × Bool × Int × Int × Int × Int) : Option Int :=
  (F36_0 v.1).bind fun r1101 =>
  bif (decide (r1101 < (0 : Int))) then
    some (0 : Int)
  else
    (F58_0 v).bind fun r1102 =>
    bif (decide (r1102 ≥ (0 : Int))) then
      some (0 : Int)
    else
      K (((0 : Int), (0 : Int)), (v.1.2, v.2))

def K40_0 : Nat → (((Int × Int) × (Int × Int × Int × Int) × Bool × Int × Int × Int × Int) → Option Int)
  | 0 => (fun _ => none)
  | n + 1 => (B40_0_6 (K40_0 n))
def fuel40_0 (v : (Bool × Int × Int × Int × Int) × Bool × Int × Int × Int × Int) : Nat := 1000
def F40_0 (v : (Bool × Int × Int × Int × Int) × Bool × Int × Int × Int × Int) : Option Int := E40_0 (K40_0 (fuel40_0 v)) v
noncomputable def k40_0 : List (Known Try.prog E) := [Known.of envOk [9] [(.agg [.keep, .keep, .keep, .keep, .keep])] v36_0 F36_0 w36_0 ok36_0, Known.of envOk [9, 9] [(.agg [.keep, .keep, .keep, .keep, .keep]), (.agg [.keep, .keep, .keep, .keep, .keep])] v58_0 F58_0 w58_0 ok58_0, Known.of envOk [9, 1] [(.agg [.keep, .keep, .keep, .keep]), .keep] v59_0 F59_0 w59_0 ok59_0, Known.of envOk [9, 9] [(.agg [.keep, .keep, .keep, .keep]), (.agg [.keep, .keep, .keep, .keep])] v55_0 F55_0 w55_0 ok55_0, Known.of envOk [9, 9] [(.agg [.keep, .keep, .keep, .keep]), (.agg [.keep, .keep, .keep, .keep])] v56_0 F56_0 w56_0 ok56_0]
def s40_0_6 : List (Nat × Pat) := [(3, (.ptr 0 0 88 [.keep, .keep, .keep, .keep, .keep])), (5, .keep), (6, (.ptr 1 0 86 [.keep, .keep, .keep, .keep])), (7, .keep)]
noncomputable def L40_0 (n id : Nat) (st : St G) : Option Int := match Nat.beq id 6 with | true => cutK Try.prog s40_0_6 [] c40_0_6.dec (K40_0 n) st | false => none
set_option maxRecDepth 100000 in
theorem e40_0 (n : Nat) (v : (Bool × Int × Int × Int × Int) × Bool × Int × Int × Int × Int) : ev Try.prog E (oracle k40_0) Try.f40.ntmps (fun x => mem x [6]) (L40_0 n) (finA Try.prog E Try.f40.results.toList [] w40_0.alts) 4000 [.code (Try.f40.body.getD .skip)] (argSt (v40_0.enc v)) = E40_0 (K40_0 n) v := by kernel_rfl
set_option maxRecDepth 100000 in
theorem b40_0_6 (n : Nat) (v : (Int × Int) × (Int × Int × Int × Int) × Bool × Int × Int × Int × Int) : evCut Try.prog E (oracle k40_0) Try.f40.ntmps (fun x => mem x [6]) (L40_0 n) (finA Try.prog E Try.f40.results.toList [] w40_0.alts) 4000 (todoAt (Try.f40.body.getD .skip) 6) (cutSt s40_0_6 (c40_0_6.enc v)) = B40_0_6 (K40_0 n) v := by kernel_rfl
theorem ok40_0 : FnOk Try.prog E 40 v40_0.enc F40_0 w40_0.enc :=
  fn_known (fn := Try.f40) (c := (Try.f40.body.getD .skip)) Try.func40 (by kernel_rfl) rfl envOk (oracle_ok k40_0) mixed v40_0 F40_0 w40_0 [] [6] 4000 L40_0 (by kernel_rfl)
    (List.forall_mem_cons.2 ⟨⟨_, s40_0_6, c40_0_6.dec, c40_0_6.enc, fun n => (K40_0 n), c40_0_6.ok, fun _ _ => rfl, fun _ => rfl, fun n v _ h => (b40_0_6 n v).trans h⟩, fun _ h => (nomatch h)⟩) (fun v _ h => ⟨fuel40_0 v, (e40_0 _ v).trans h⟩) (fun _ => by kernel_rfl) (fun _ => by kernel_rfl) (fun _ _ => by kernel_rfl)
/- chicane/chicaneref07.Crosses -/
abbrev A21_0 : Type := (Int × Int) × (Int × Int) × (Int × Int) × Int × Int
abbrev R21_0 : Type := Int × Bool
def v21_0 : Pk G ((Int × Int) × (Int × Int) × (Int × Int) × Int × Int) := (Pk.fst (pk (Sh.cons (Sh.agg (Sh.cons (Sh.int .i64) (Sh.fst (Sh.cons (Sh.int .i64) Sh.nil)))) (Sh.cons (Sh.agg (Sh.cons (Sh.int .i64) (Sh.fst (Sh.cons (Sh.int .i64) Sh.nil)))) (Sh.cons (Sh.agg (Sh.cons (Sh.int .i64) (Sh.fst (Sh.cons (Sh.int .i64) Sh.nil)))) (Sh.fst (Sh.cons (Sh.agg (Sh.cons (Sh.int .i64) (Sh.fst (Sh.cons (Sh.int .i64) Sh.nil)))) Sh.nil))))) Sh.hnil))
def w21_0 : Wk G (Int × Bool) := (Wk.one [.keep, .keep] (Pk.fst (pk (Sh.cons (Sh.int .u32) (Sh.fst (Sh.cons Sh.bool Sh.nil))) Sh.hnil)))
def F21_0 (v : (Int × Int) × (Int × Int) × (Int × Int) × Int × Int) : Option (Int × Bool) :=
  (F34_0 ([v.1, v.2.1, v.2.2.1, v.2.2.2] : List (Int × Int))).bind fun r1122 =>
  bif (!r1122) then
    some ((0 : Int), false)
  else
    (F35_0 (v.1, (v.2.1, v.2.2.1))).bind fun r1123 =>
    (F35_0 (v.1, (v.2.1, v.2.2.2))).bind fun r1124 =>
    (F36_0 r1123).bind fun r1125 =>
    bif (decide (r1125 > (0 : Int))) then
      some ((0 : Int), false)
    else
      (F36_0 r1124).bind fun r1126 =>
      bif (decide (r1126 ≤ (0 : Int))) then
        some ((0 : Int), false)
      else
        (F37_0 (v.2.2.1, (v.2.2.2, v.1))).bind fun r1127 =>
        bif (decide (r1127 < (0 : Int))) then
          some ((0 : Int), false)
        else
          (F37_0 (v.2.2.1, (v.2.2.2, v.2.1))).bind fun r1128 =>
          bif (decide (r1128 ≥ (0 : Int))) then
            some ((0 : Int), false)
          else
            (F39_0 r1123).bind fun r1129 =>
            (F38_0 (r1124, r1129)).bind fun r1130 =>
            (F39_0 r1123).bind fun r1131 =>
            (F40_0 (r1131, r1130.1)).bind fun r1132 =>
            some (r1132, true)

noncomputable def k21_0 : List (Known Try.prog E) := [Known.of envOk [7] [(.ros 25)] v34_0 F34_0 w34_0 ok34_0, Known.of envOk [9, 9, 9] [(.agg [.keep, .keep]), (.agg [.keep, .keep]), (.agg [.keep, .keep])] v35_0 F35_0 w35_0 ok35_0, Known.of envOk [9] [(.agg [.keep, .keep, .keep, .keep, .keep])] v36_0 F36_0 w36_0 ok36_0, Known.of envOk [9, 9, 9] [(.agg [.keep, .keep]), (.agg [.keep, .keep]), (.agg [.keep, .keep])] v37_0 F37_0 w37_0 ok37_0, Known.of envOk [9] [(.agg [.keep, .keep, .keep, .keep, .keep])] v39_0 F39_0 w39_0 ok39_0, Known.of envOk [9, 9] [(.agg [.keep, .keep, .keep, .keep, .keep]), (.agg [.keep, .keep, .keep, .keep, .keep])] v38_0 F38_0 w38_0 ok38_0, Known.of envOk [9, 9] [(.agg [.keep, .keep, .keep, .keep, .keep]), (.agg [.keep, .keep, .keep, .keep, .keep])] v40_0 F40_0 w40_0 ok40_0]
noncomputable def L21_0 (n id : Nat) (st : St G) : Option (Int × Bool) := none
set_option maxRecDepth 100000 in
theorem e21_0 (n : Nat) (v : (Int × Int) × (Int × Int) × (Int × Int) × Int × Int) : ev Try.prog E (oracle k21_0) Try.f21.ntmps (fun x => mem x []) (L21_0 n) (finA Try.prog E Try.f21.results.toList [] w21_0.alts) 4000 [.code (Try.f21.body.getD .skip)] (argSt (v21_0.enc v)) = F21_0 v := by kernel_rfl
theorem ok21_0 : FnOk Try.prog E 21 v21_0.enc F21_0 w21_0.enc :=
  fn_known (fn := Try.f21) (c := (Try.f21.body.getD .skip)) Try.func21 (by kernel_rfl) rfl envOk (oracle_ok k21_0) mixed v21_0 F21_0 w21_0 [] [] 4000 L21_0 (by kernel_rfl)
    (fun _ h => nomatch h) (fun v _ h => ⟨0, (e21_0 _ v).trans h⟩) (fun _ => by kernel_rfl) (fun _ => by kernel_rfl) (fun _ _ => by kernel_rfl)
/- chicane/chicaneref30.Passes -/
abbrev A11_0 : Type := (List (Int × Int × Int × Int × Bool)) × Int × (Int × Int) × Int × Int
abbrev R11_0 : Type := List (Int × Int × Bool)
def v11_0 : Pk G ((List (Int × Int × Int × Int × Bool)) × Int × (Int × Int) × Int × Int) := (Pk.fst (pk (Sh.cons (Sh.ros 40) (Sh.cons (Sh.int .i64) (Sh.cons (Sh.agg (Sh.cons (Sh.int .i64) (Sh.fst (Sh.cons (Sh.int .i64) Sh.nil)))) (Sh.fst (Sh.cons (Sh.agg (Sh.cons (Sh.int .i64) (Sh.fst (Sh.cons (Sh.int .i64) Sh.nil)))) Sh.nil))))) Sh.hnil))
def w11_0 : Wk G (List (Int × Int × Bool)) := (Wk.one [(.own 0 36)] (Pk.snd (pk (Sh.snd (Sh.cons (Sh.osl 0) Sh.nil)) (Sh.fst (Sh.hrow 0 36 Sh.hnil)))))
def c11_0_8 : Pk G (((List (Int × Int × Int × Int × Bool)) × Int × Int × Int × Int × Int) × (List (Int × Int × Bool)) × (Int × Int) × Int × Int) := (pk (Sh.cons (Sh.ros 40) (Sh.cons (Sh.int .i64) (Sh.snd (Sh.cons (Sh.ptr 0 0) (Sh.snd (Sh.cons (Sh.ptr 1 0) (Sh.snd (Sh.cons (Sh.osl 2) (Sh.cons (Sh.int .i64) (Sh.cons (Sh.int .i64) (Sh.cons (Sh.int .u32) (Sh.fst (Sh.cons (Sh.int .i64) Sh.nil))))))))))))) (Sh.hrow 2 36 (Sh.hfix 1 25 (Sh.cons (Sh.int .i64) (Sh.fst (Sh.cons (Sh.int .i64) Sh.nil))) (Sh.fst (Sh.hfix 0 25 (Sh.cons (Sh.int .i64) (Sh.fst (Sh.cons (Sh.int .i64) Sh.nil))) Sh.hnil)))))
def B11_0_8 (K : ((((List (Int × Int × Int × Int × Bool)) × Int × Int × Int × Int × Int) × (List (Int × Int × Bool)) × (Int × Int) × Int × Int) → Option (List (Int × Int × Bool)))) (v : ((List (Int × Int × Int × Int × Bool)) × Int × Int × Int × Int × Int) × (List (Int × Int × Bool)) × (Int × Int) × Int × Int) : Option (List (Int × Int × Bool)) :=
  bif (decide (v.1.2.2.2.2.2 < v.1.2.2.1)) then
    (rdx v.1.1 v.1.2.2.2.1).bind fun (x1188 : Int × Int × Int × Int × Bool) =>
    (rdx v.1.1 v.1.2.2.2.1).bind fun (x1189 : Int × Int × Int × Int × Bool) =>
    (F21_0 ((x1188.1, x1188.2.1), ((x1189.2.2.1, x1189.2.2.2.1), (v.2.2.2, v.2.2.1)))).bind fun r1190 =>
    bif (!r1190.2) then
      bif (decide (((v.2.1).length : Int) > (0 : Int))) then
        some (v.2.1)
      else
        let x1191 : Int := (IntKind.wrap .i64 (v.1.2.1 + v.1.2.2.1))
        let x1192 : Int := (IntKind.wrap .i64 (x1191 - (1 : Int)))
        (chk (v.1.2.2.1 != 0)).bind fun _ =>
        let x1193 : Int := (Int.tmod x1192 v.1.2.2.1)
        (rdx v.1.1 x1193).bind fun (x1194 : Int × Int × Int × Int × Bool) =>
        (rdx v.1.1 x1193).bind fun (x1195 : Int × Int × Int × Int × Bool) =>
        (F21_0 ((x1194.2.2.1, x1194.2.2.2.1), ((x1195.1, x1195.2.1), (v.2.2.2, v.2.2.1)))).bind fun r1196 =>
        bif r1196.2 then
          (chk (decide (((v.2.1).length + (([(x1193, (r1196.1, true))] : List (Int × Int × Bool))).length) * 16 ≤ 140737488355328))).bind fun _ =>
          let x1197 : List (Int × Int × Bool) := (v.2.1 ++ ([(x1193, (r1196.1, true))] : List (Int × Int × Bool)))
          some (x1197)
        else
          some (v.2.1)
    else
      bif (decide (r1190.1 < v.1.2.2.2.2.1)) then
        bif (decide (((v.2.1).length : Int) > (0 : Int))) then
          some (v.2.1)
        else
          let x1198 : Int := (IntKind.wrap .i64 (v.1.2.1 + v.1.2.2.1))
          let x1199 : Int := (IntKind.wrap .i64 (x1198 - (1 : Int)))
          (chk (v.1.2.2.1 != 0)).bind fun _ =>
          let x1200 : Int := (Int.tmod x1199 v.1.2.2.1)
          (rdx v.1.1 x1200).bind fun (x1201 : Int × Int × Int × Int × Bool) =>
          (rdx v.1.1 x1200).bind fun (x1202 : Int × Int × Int × Int × Bool) =>
          (F21_0 ((x1201.2.2.1, x1201.2.2.2.1), ((x1202.1, x1202.2.1), (v.2.2.2, v.2.2.1)))).bind fun r1203 =>
          bif r1203.2 then
            (chk (decide (((v.2.1).length + (([(x1200, (r1203.1, true))] : List (Int × Int × Bool))).length) * 16 ≤ 140737488355328))).bind fun _ =>
            let x1204 : List (Int × Int × Bool) := (v.2.1 ++ ([(x1200, (r1203.1, true))] : List (Int × Int × Bool)))
            some (x1204)
          else
            some (v.2.1)
      else
        (chk (decide (((v.2.1).length + (([(v.1.2.2.2.1, (r1190.1, false))] : List (Int × Int × Bool))).length) * 16 ≤ 140737488355328))).bind fun _ =>
        let x1205 : List (Int × Int × Bool) := (v.2.1 ++ ([(v.1.2.2.2.1, (r1190.1, false))] : List (Int × Int × Bool)))
        let x1206 : Int := (IntKind.wrap .i64 (v.1.2.2.2.1 + (1 : Int)))
        (chk (v.1.2.2.1 != 0)).bind fun _ =>
        let x1207 : Int := (Int.tmod x1206 v.1.2.2.1)
        let x1208 : Int := (IntKind.wrap .i64 (v.1.2.2.2.2.2 + (1 : Int)))
        K ((v.1.1, (v.1.2.1, (v.1.2.2.1, (x1207, (r1190.1, x1208))))), (x1205, v.2.2))
  else
    bif (decide (((v.2.1).length : Int) > (0 : Int))) then
      some (v.2.1)
    else
      let x1209 : Int := (IntKind.wrap .i64 (v.1.2.1 + v.1.2.2.1))
      let x1210 : Int := (IntKind.wrap .i64 (x1209 - (1 : Int)))
      (chk (v.1.2.2.1 != 0)).bind fun _ =>
      let x1211 : Int := (Int.tmod x1210 v.1.2.2.1)
      (rdx v.1.1 x1211).bind fun (x1212 : Int × Int × Int × Int × Bool) =>
      (rdx v.1.1 x1211).bind fun (x1213 : Int × Int × Int × Int × Bool) =>
      (F21_0 ((x1212.2.2.1, x1212.2.2.2.1), ((x1213.1, x1213.2.1), (v.2.2.2, v.2.2.1)))).bind fun r1214 =>
      bif r1214.2 then
        (chk (decide (((v.2.1).length + (([(x1211, (r1214.1, true))] : List (Int × Int × Bool))).length) * 16 ≤ 140737488355328))).bind fun _ =>
        let x1215 : List (Int × Int × Bool) := (v.2.1 ++ ([(x1211, (r1214.1, true))] : List (Int × Int × Bool)))
        some (x1215)
      else
        some (v.2.1)

def E11_0 (K : ((((List (Int × Int × Int × Int × Bool)) × Int × Int × Int × Int × Int) × (List (Int × Int × Bool)) × (Int × Int) × Int × Int) → Option (List (Int × Int × Bool)))) (v : (List (Int × Int × Int × Int × Bool)) × Int × (Int × Int) × Int × Int) : Option (List (Int × Int × Bool)) :=
  bif (decide (v.2.1 < (0 : Int))) then
    some ([] : List (Int × Int × Bool))
  else
    bif (decide (v.2.1 ≥ ((v.1).length : Int))) then
      some ([] : List (Int × Int × Bool))
    else
      K ((v.1, (v.2.1, (((v.1).length : Int), (v.2.1, ((0 : Int), (0 : Int)))))), (([] : List (Int × Int × Bool)), (v.2.2.2, v.2.2.1)))

def K11_0 : Nat → ((((List (Int × Int × Int × Int × Bool)) × Int × Int × Int × Int × Int) × (List (Int × Int × Bool)) × (Int × Int) × Int × Int) → Option (List (Int × Int × Bool)))
  | 0 => (fun _ => none)
  | n + 1 => (B11_0_8 (K11_0 n))
def fuel11_0 (v : (List (Int × Int × Int × Int × Bool)) × Int × (Int × Int) × Int × Int) : Nat := 1000
def F11_0 (v : (List (Int × Int × Int × Int × Bool)) × Int × (Int × Int) × Int × Int) : Option (List (Int × Int × Bool)) := E11_0 (K11_0 (fuel11_0 v)) v
noncomputable def k11_0 : List (Known Try.prog E) := [Known.of envOk [9, 9, 9, 9] [(.agg [.keep, .keep]), (.agg [.keep, .keep]), (.agg [.keep, .keep]), (.agg [.keep, .keep])] v21_0 F21_0 w21_0 ok21_0]
def s11_0_8 : List (Nat × Pat) := [(0, (.ros 40)), (1, .keep), (6, (.ptr 0 0 25 [.keep, .keep])), (7, (.ptr 1 0 25 [.keep, .keep])), (9, (.own 2 36)), (10, .keep), (11, .keep), (12, .keep), (13, .keep)]
noncomputable def L11_0 (n id : Nat) (st : St G) : Option (List (Int × Int × Bool)) := match Nat.beq id 8 with | true => cutK Try.prog s11_0_8 [] c11_0_8.dec (K11_0 n) st | false => none
set_option maxRecDepth 100000 in
theorem e11_0 (n : Nat) (v : (List (Int × Int × Int × Int × Bool)) × Int × (Int × Int) × Int × Int) : ev Try.prog E (oracle k11_0) Try.f11.ntmps (fun x => mem x [8]) (L11_0 n) (finA Try.prog E Try.f11.results.toList [] w11_0.alts) 4000 [.code (Try.f11.body.getD .skip)] (argSt (v11_0.enc v)) = E11_0 (K11_0 n) v := by kernel_rfl
set_option maxRecDepth 100000 in
theorem b11_0_8 (n : Nat) (v : ((List (Int × Int × Int × Int × Bool)) × Int × Int × Int × Int × Int) × (List (Int × Int × Bool)) × (Int × Int) × Int × Int) : evCut Try.prog E (oracle k11_0) Try.f11.ntmps (fun x => mem x [8]) (L11_0 n) (finA Try.prog E Try.f11.results.toList [] w11_0.alts) 4000 (todoAt (Try.f11.body.getD .skip) 8) (cutSt s11_0_8 (c11_0_8.enc v)) = B11_0_8 (K11_0 n) v := by kernel_rfl
theorem ok11_0 : FnOk Try.prog E 11 v11_0.enc F11_0 w11_0.enc :=
  fn_known (fn := Try.f11) (c := (Try.f11.body.getD .skip)) Try.func11 (by kernel_rfl) rfl envOk (oracle_ok k11_0) mixed v11_0 F11_0 w11_0 [] [8] 4000 L11_0 (by kernel_rfl)
    (List.forall_mem_cons.2 ⟨⟨_, s11_0_8, c11_0_8.dec, c11_0_8.enc, fun n => (K11_0 n), c11_0_8.ok, fun _ _ => rfl, fun _ => rfl, fun n v _ h => (b11_0_8 n v).trans h⟩, fun _ h => (nomatch h)⟩) (fun v _ h => ⟨fuel11_0 v, (e11_0 _ v).trans h⟩) (fun _ => by kernel_rfl) (fun _ => by kernel_rfl) (fun _ _ => by kernel_rfl)
/- chicane/gate.Next -/
abbrev A12_0 : Type := (List (Int × Int × Int × Int × Bool)) × Int × List (Int × Int × Bool)
abbrev R12_0 : Type := Int
def v12_0 : Pk G ((List (Int × Int × Int × Int × Bool)) × Int × List (Int × Int × Bool)) := (Pk.fst (pk (Sh.cons (Sh.ros 40) (Sh.cons (Sh.int .i64) (Sh.fst (Sh.cons (Sh.ros 35) Sh.nil)))) Sh.hnil))
def w12_0 : Wk G Int := (Wk.one [.keep] (Pk.fst (pk (Sh.fst (Sh.cons (Sh.int .i64) Sh.nil)) Sh.hnil)))
def c12_0_5 : Pk G ((List (Int × Int × Int × Int × Bool)) × Int × Int × (List (Int × Int × Bool)) × Int × Int) := (Pk.fst (pk (Sh.cons (Sh.ros 40) (Sh.cons (Sh.int .i64) (Sh.cons (Sh.int .i64) (Sh.cons (Sh.ros 35) (Sh.cons (Sh.int .i64) (Sh.fst (Sh.cons (Sh.int .i64) Sh.nil))))))) Sh.hnil))
def B12_0_5 (K : (((List (Int × Int × Int × Int × Bool)) × Int × Int × (List (Int × Int × Bool)) × Int × Int) → Option Int)) (v : (List (Int × Int × Int × Int × Bool)) × Int × Int × (List (Int × Int × Bool)) × Int × Int) : Option Int :=
  bif (decide (v.2.2.2.2.2 < v.2.2.2.2.1)) then
    (rdx v.2.2.2.1 v.2.2.2.2.2).bind fun (x1233 : Int × Int × Bool) =>
    bif (!x1233.2.2) then
      let x1234 : Int := (IntKind.wrap .i64 (v.2.2.1 + (1 : Int)))
      let x1235 : Int := (IntKind.wrap .i64 (v.2.2.2.2.2 + (1 : Int)))
      K (v.1, (v.2.1, (x1234, (v.2.2.2.1, (v.2.2.2.2.1, x1235)))))
    else
      let x1236 : Int := (IntKind.wrap .i64 (v.2.2.2.2.2 + (1 : Int)))
      K (v.1, (v.2.1, (v.2.2.1, (v.2.2.2.1, (v.2.2.2.2.1, x1236)))))
  else
    (chk (((v.1).length : Int) != 0)).bind fun _ =>
    let x1237 : Int := (Int.tmod v.2.2.1 ((v.1).length : Int))
    let x1238 : Int := (IntKind.wrap .i64 (v.2.1 + x1237))
    (chk (((v.1).length : Int) != 0)).bind fun _ =>
    let x1239 : Int := (Int.tmod x1238 ((v.1).length : Int))
    some (x1239)

def E12_0 (K : (((List (Int × Int × Int × Int × Bool)) × Int × Int × (List (Int × Int × Bool)) × Int × Int) → Option Int)) (v : (List (Int × Int × Int × Int × Bool)) × Int × List (Int × Int × Bool)) : Option Int :=
  bif (decide (v.2.1 < (0 : Int))) then
    some (v.2.1)
  else
    bif (decide (v.2.1 ≥ ((v.1).length : Int))) then
      some (v.2.1)
    else
      K (v.1, (v.2.1, ((0 : Int), (v.2.2, (((v.2.2).length : Int), (0 : Int))))))

def K12_0 : Nat → (((List (Int × Int × Int × Int × Bool)) × Int × Int × (List (Int × Int × Bool)) × Int × Int) → Option Int)
  | 0 => (fun _ => none)
  | n + 1 => (B12_0_5 (K12_0 n))
def fuel12_0 (v : (List (Int × Int × Int × Int × Bool)) × Int × List (Int × Int × Bool)) : Nat := 1000
def F12_0 (v : (List (Int × Int × Int × Int × Bool)) × Int × List (Int × Int × Bool)) : Option Int := E12_0 (K12_0 (fuel12_0 v)) v
noncomputable def k12_0 : List (Known Try.prog E) := []
def s12_0_5 : List (Nat × Pat) := [(0, (.ros 40)), (1, .keep), (7, .keep), (19, (.ros 35)), (20, .keep), (21, .keep)]
noncomputable def L12_0 (n id : Nat) (st : St G) : Option Int := match Nat.beq id 5 with | true => cutK Try.prog s12_0_5 [] c12_0_5.dec (K12_0 n) st | false => none
set_option maxRecDepth 100000 in
theorem e12_0 (n : Nat) (v : (List (Int × Int × Int × Int × Bool)) × Int × List (Int × Int × Bool)) : ev Try.prog E (oracle k12_0) Try.f12.ntmps (fun x => mem x [5]) (L12_0 n) (finA Try.prog E Try.f12.results.toList [] w12_0.alts) 4000 [.code (Try.f12.body.getD .skip)] (argSt (v12_0.enc v)) = E12_0 (K12_0 n) v := by kernel_rfl
set_option maxRecDepth 100000 in
theorem b12_0_5 (n : Nat) (v : (List (Int × Int × Int × Int × Bool)) × Int × Int × (List (Int × Int × Bool)) × Int × Int) : evCut Try.prog E (oracle k12_0) Try.f12.ntmps (fun x => mem x [5]) (L12_0 n) (finA Try.prog E Try.f12.results.toList [] w12_0.alts) 4000 (todoAt (Try.f12.body.getD .skip) 5) (cutSt s12_0_5 (c12_0_5.enc v)) = B12_0_5 (K12_0 n) v := by kernel_rfl
theorem ok12_0 : FnOk Try.prog E 12 v12_0.enc F12_0 w12_0.enc :=
  fn_known (fn := Try.f12) (c := (Try.f12.body.getD .skip)) Try.func12 (by kernel_rfl) rfl envOk (oracle_ok k12_0) mixed v12_0 F12_0 w12_0 [] [5] 4000 L12_0 (by kernel_rfl)
    (List.forall_mem_cons.2 ⟨⟨_, s12_0_5, c12_0_5.dec, c12_0_5.enc, fun n => (K12_0 n), c12_0_5.ok, fun _ _ => rfl, fun _ => rfl, fun n v _ h => (b12_0_5 n v).trans h⟩, fun _ h => (nomatch h)⟩) (fun v _ h => ⟨fuel12_0 v, (e12_0 _ v).trans h⟩) (fun _ => by kernel_rfl) (fun _ => by kernel_rfl) (fun _ _ => by kernel_rfl)
/- chicane/chicaneref30.Next -/
abbrev A13_0 : Type := (List (Int × Int × Int × Int × Bool)) × Int × List (Int × Int × Bool)
abbrev R13_0 : Type := Int
def v13_0 : Pk G ((List (Int × Int × Int × Int × Bool)) × Int × List (Int × Int × Bool)) := (Pk.fst (pk (Sh.cons (Sh.ros 40) (Sh.cons (Sh.int .i64) (Sh.fst (Sh.cons (Sh.ros 36) Sh.nil)))) Sh.hnil))
def w13_0 : Wk G Int := (Wk.one [.keep] (Pk.fst (pk (Sh.fst (Sh.cons (Sh.int .i64) Sh.nil)) Sh.hnil)))
def c13_0_4 : Pk G ((List (Int × Int × Int × Int × Bool)) × Int × (List (Int × Int × Bool)) × Int) := (Pk.fst (pk (Sh.cons (Sh.ros 40) (Sh.cons (Sh.int .i64) (Sh.cons (Sh.ros 36) (Sh.fst (Sh.cons (Sh.int .i64) Sh.nil))))) Sh.hnil))
def B13_0_4 (K : (((List (Int × Int × Int × Int × Bool)) × Int × (List (Int × Int × Bool)) × Int) → Option Int)) (v : (List (Int × Int × Int × Int × Bool)) × Int × (List (Int × Int × Bool)) × Int) : Option Int :=
  bif (decide (v.2.2.2 < ((v.2.2.1).length : Int))) then
    (rdx v.2.2.1 v.2.2.2).bind fun (x1253 : Int × Int × Bool) =>
    bif (!x1253.2.2) then
      let x1254 : Int := (IntKind.wrap .i64 (v.2.1 + (1 : Int)))
      (chk (((v.1).length : Int) != 0)).bind fun _ =>
      let x1255 : Int := (Int.tmod x1254 ((v.1).length : Int))
      let x1256 : Int := (IntKind.wrap .i64 (v.2.2.2 + (1 : Int)))
      K (v.1, (x1255, (v.2.2.1, x1256)))
    else
      let x1257 : Int := (IntKind.wrap .i64 (v.2.2.2 + (1 : Int)))
      K (v.1, (v.2.1, (v.2.2.1, x1257)))
  else
    some (v.2.1)

def E13_0 (K : (((List (Int × Int × Int × Int × Bool)) × Int × (List (Int × Int × Bool)) × Int) → Option Int)) (v : (List (Int × Int × Int × Int × Bool)) × Int × List (Int × Int × Bool)) : Option Int :=
  bif (decide (v.2.1 < (0 : Int))) then
    some (v.2.1)
  else
    bif (decide (v.2.1 ≥ ((v.1).length : Int))) then
      some (v.2.1)
    else
      K (v.1, (v.2.1, (v.2.2, (0 : Int))))

def K13_0 : Nat → (((List (Int × Int × Int × Int × Bool)) × Int × (List (Int × Int × Bool)) × Int) → Option Int)
  | 0 => (fun _ => none)
  | n + 1 => (B13_0_4 (K13_0 n))
def fuel13_0 (v : (List (Int × Int × Int × Int × Bool)) × Int × List (Int × Int × Bool)) : Nat := 1000
def F13_0 (v : (List (Int × Int × Int × Int × Bool)) × Int × List (Int × Int × Bool)) : Option Int := E13_0 (K13_0 (fuel13_0 v)) v
noncomputable def k13_0 : List (Known Try.prog E) := []
def s13_0_4 : List (Nat × Pat) := [(0, (.ros 40)), (1, .keep), (2, (.ros 36)), (7, .keep)]
noncomputable def L13_0 (n id : Nat) (st : St G) : Option Int := match Nat.beq id 4 with | true => cutK Try.prog s13_0_4 [] c13_0_4.dec (K13_0 n) st | false => none
set_option maxRecDepth 100000 in
theorem e13_0 (n : Nat) (v : (List (Int × Int × Int × Int × Bool)) × Int × List (Int × Int × Bool)) : ev Try.prog E (oracle k13_0) Try.f13.ntmps (fun x => mem x [4]) (L13_0 n) (finA Try.prog E Try.f13.results.toList [] w13_0.alts) 4000 [.code (Try.f13.body.getD .skip)] (argSt (v13_0.enc v)) = E13_0 (K13_0 n) v := by kernel_rfl
set_option maxRecDepth 100000 in
theorem b13_0_4 (n : Nat) (v : (List (Int × Int × Int × Int × Bool)) × Int × (List (Int × Int × Bool)) × Int) : evCut Try.prog E (oracle k13_0) Try.f13.ntmps (fun x => mem x [4]) (L13_0 n) (finA Try.prog E Try.f13.results.toList [] w13_0.alts) 4000 (todoAt (Try.f13.body.getD .skip) 4) (cutSt s13_0_4 (c13_0_4.enc v)) = B13_0_4 (K13_0 n) v := by kernel_rfl
theorem ok13_0 : FnOk Try.prog E 13 v13_0.enc F13_0 w13_0.enc :=
  fn_known (fn := Try.f13) (c := (Try.f13.body.getD .skip)) Try.func13 (by kernel_rfl) rfl envOk (oracle_ok k13_0) mixed v13_0 F13_0 w13_0 [] [4] 4000 L13_0 (by kernel_rfl)
    (List.forall_mem_cons.2 ⟨⟨_, s13_0_4, c13_0_4.dec, c13_0_4.enc, fun n => (K13_0 n), c13_0_4.ok, fun _ _ => rfl, fun _ => rfl, fun n v _ h => (b13_0_4 n v).trans h⟩, fun _ h => (nomatch h)⟩) (fun v _ h => ⟨fuel13_0 v, (e13_0 _ v).trans h⟩) (fun _ => by kernel_rfl) (fun _ => by kernel_rfl) (fun _ _ => by kernel_rfl)
/- chicane/chicanelaw30.at -/
abbrev A22_0 : Type := Int × Int
abbrev R22_0 : Type := Int × Int
def v22_0 : Pk G (Int × Int) := (Pk.fst (pk (Sh.cons (Sh.int .i64) (Sh.fst (Sh.cons (Sh.int .i64) Sh.nil))) Sh.hnil))
def w22_0 : Wk G (Int × Int) := (Wk.one [(.agg [.keep, .keep])] (Pk.fst (pk (Sh.fst (Sh.cons (Sh.agg (Sh.cons (Sh.int .i64) (Sh.fst (Sh.cons (Sh.int .i64) Sh.nil)))) Sh.nil)) Sh.hnil)))
def F22_0 (v : Int × Int) : Option (Int × Int) :=
  let x1277 : Int := (IntKind.wrap .i64 (v.1 * (4294967296 : Int)))
  let x1278 : Int := (IntKind.wrap .i64 (v.2 * (4294967296 : Int)))
  some (x1277, x1278)

noncomputable def k22_0 : List (Known Try.prog E) := []
noncomputable def L22_0 (n id : Nat) (st : St G) : Option (Int × Int) := none
set_option maxRecDepth 100000 in
theorem e22_0 (n : Nat) (v : Int × Int) : ev Try.prog E (oracle k22_0) Try.f22.ntmps (fun x => mem x []) (L22_0 n) (finA Try.prog E Try.f22.results.toList [] w22_0.alts) 4000 [.code (Try.f22.body.getD .skip)] (argSt (v22_0.enc v)) = F22_0 v := by kernel_rfl
theorem ok22_0 : FnOk Try.prog E 22 v22_0.enc F22_0 w22_0.enc :=
  fn_known (fn := Try.f22) (c := (Try.f22.body.getD .skip)) Try.func22 (by kernel_rfl) rfl envOk (oracle_ok k22_0) mixed v22_0 F22_0 w22_0 [] [] 4000 L22_0 (by kernel_rfl)
    (fun _ h => nomatch h) (fun v _ h => ⟨0, (e22_0 _ v).trans h⟩) (fun _ => by kernel_rfl) (fun _ => by kernel_rfl) (fun _ _ => by kernel_rfl)
/- chicane/chicanelaw30.awake -/
abbrev A14_0 : Type := Unit
abbrev R14_0 : Type := Bool
def v14_0 : Pk G Unit := (Pk.snd (pk Sh.nil Sh.hnil))
def w14_0 : Wk G Bool := (Wk.one [.keep] (Pk.fst (pk (Sh.fst (Sh.cons Sh.bool Sh.nil)) Sh.hnil)))
def F14_0 (v : Unit) : Option Bool :=
  (F22_0 ((-1 : Int), (0 : Int))).bind fun r1307 =>
  (F22_0 ((1 : Int), (0 : Int))).bind fun r1308 =>
  (F22_0 ((0 : Int), (-1 : Int))).bind fun r1309 =>
  (F22_0 ((0 : Int), (1 : Int))).bind fun r1310 =>
  (F10_0 (([(r1307.1, (r1307.2, (r1308.1, (r1308.2, false))))] : List (Int × Int × Int × Int × Bool)), ((0 : Int), (r1309, r1310)))).bind fun r1311 =>
  (F22_0 ((0 : Int), (1 : Int))).bind fun r1312 =>
  (F22_0 ((0 : Int), (-1 : Int))).bind fun r1313 =>
  (F10_0 (([(r1307.1, (r1307.2, (r1308.1, (r1308.2, false))))] : List (Int × Int × Int × Int × Bool)), ((0 : Int), (r1312, r1313)))).bind fun r1314 =>
  bif (((r1311).length : Int) == (1 : Int)) then
    (idx (0 : Int) (r1311).length).bind fun (x1315 : Nat) =>
    ((r1311)[x1315]?).bind fun (x1316 : Int × Int × Bool) =>
    let x1317 : Bool := ((x1316.1 == (0 : Int)) && ((x1316.2.1 == (2147483648 : Int)) && ((x1316.2.2 == false) && true)))
    bif x1317 then
      bif (((r1314).length : Int) == (1 : Int)) then
        (idx (0 : Int) (r1314).length).bind fun (x1318 : Nat) =>
        ((r1314)[x1318]?).bind fun (x1319 : Int × Int × Bool) =>
        bif x1319.2.2 then
          (F12_0 (([(r1307.1, (r1307.2, (r1308.1, (r1308.2, false))))] : List (Int × Int × Int × Int × Bool)), ((0 : Int), r1311))).bind fun r1320 =>
          some (r1320 == (0 : Int))
        else
          some (false)
      else
        some (false)
    else
      some (false)
  else
    some (false)

noncomputable def k14_0 : List (Known Try.prog E) := [Known.of envOk [1, 1] [.keep, .keep] v22_0 F22_0 w22_0 ok22_0, Known.of envOk [7, 1, 9, 9] [(.ros 40), .keep, (.agg [.keep, .keep]), (.agg [.keep, .keep])] v10_0 F10_0 w10_0 ok10_0, Known.of envOk [7, 1, 7] [(.ros 40), .keep, (.ros 35)] v12_0 F12_0 w12_0 ok12_0]
noncomputable def L14_0 (n id : Nat) (st : St G) : Option Bool := none
set_option maxRecDepth 100000 in
theorem e14_0 (n : Nat) (v : Unit) : ev Try.prog E (oracle k14_0) Try.f14.ntmps (fun x => mem x []) (L14_0 n) (finA Try.prog E Try.f14.results.toList [] w14_0.alts) 4000 [.code (Try.f14.body.getD .skip)] (argSt (v14_0.enc v)) = F14_0 v := by kernel_rfl
theorem ok14_0 : FnOk Try.prog E 14 v14_0.enc F14_0 w14_0.enc :=
  fn_known (fn := Try.f14) (c := (Try.f14.body.getD .skip)) Try.func14 (by kernel_rfl) rfl envOk (oracle_ok k14_0) mixed v14_0 F14_0 w14_0 [] [] 4000 L14_0 (by kernel_rfl)
    (fun _ h => nomatch h) (fun v _ h => ⟨0, (e14_0 _ v).trans h⟩) (fun _ => by kernel_rfl) (fun _ => by kernel_rfl) (fun _ _ => by kernel_rfl)
/- chicane/chicanelaw30.GatePasses -/
abbrev A3_0 : Type := (List (Int × Int × Int × Int × Bool)) × Int × Int × Int × Int × Int
abbrev R3_0 : Type := Bool
def v3_0 : Pk G ((List (Int × Int × Int × Int × Bool)) × Int × Int × Int × Int × Int) := (Pk.fst (pk (Sh.cons (Sh.ros 40) (Sh.cons (Sh.int .i64) (Sh.fst (Sh.cons (Sh.agg (Sh.cons (Sh.int .i64) (Sh.cons (Sh.int .i64) (Sh.cons (Sh.int .i64) (Sh.fst (Sh.cons (Sh.int .i64) Sh.nil)))))) Sh.nil)))) Sh.hnil))
def w3_0 : Wk G Bool := (Wk.one [.keep] (Pk.fst (pk (Sh.fst (Sh.cons Sh.bool Sh.nil)) Sh.hnil)))
def c3_0_8 : Pk G (Int × (List (Int × Int × Bool)) × List (Int × Int × Bool)) := (pk (Sh.snd (Sh.cons (Sh.osl 0) (Sh.snd (Sh.cons (Sh.osl 1) (Sh.fst (Sh.cons (Sh.int .i64) Sh.nil)))))) (Sh.hrow 1 36 (Sh.fst (Sh.hrow 0 35 Sh.hnil))))
def B3_0_8 (K : ((Int × (List (Int × Int × Bool)) × List (Int × Int × Bool)) → Option Bool)) (v : Int × (List (Int × Int × Bool)) × List (Int × Int × Bool)) : Option Bool :=
  bif (decide (v.1 < ((v.2.2).length : Int))) then
    (idx v.1 (v.2.2).length).bind fun (x1345 : Nat) =>
    ((v.2.2)[x1345]?).bind fun (x1346 : Int × Int × Bool) =>
    (idx v.1 (v.2.1).length).bind fun (x1347 : Nat) =>
    ((v.2.1)[x1347]?).bind fun (x1348 : Int × Int × Bool) =>
    bif (x1346.1 != x1348.1) then
      some (false)
    else
      (idx v.1 (v.2.2).length).bind fun (x1349 : Nat) =>
      ((v.2.2)[x1349]?).bind fun (x1350 : Int × Int × Bool) =>
      (idx v.1 (v.2.1).length).bind fun (x1351 : Nat) =>
      ((v.2.1)[x1351]?).bind fun (x1352 : Int × Int × Bool) =>
      bif (x1350.2.1 != x1352.2.1) then
        some (false)
      else
        (idx v.1 (v.2.2).length).bind fun (x1353 : Nat) =>
        ((v.2.2)[x1353]?).bind fun (x1354 : Int × Int × Bool) =>
        (idx v.1 (v.2.1).length).bind fun (x1355 : Nat) =>
        ((v.2.1)[x1355]?).bind fun (x1356 : Int × Int × Bool) =>
        bif (!(x1354.2.2 == x1356.2.2)) then
          some (false)
        else
          let x1357 : Int := (IntKind.wrap .i64 (v.1 + (1 : Int)))
          K (x1357, v.2)
  else
    (F14_0 ()).bind fun r1358 =>
    some (r1358)

def E3_0 (K : ((Int × (List (Int × Int × Bool)) × List (Int × Int × Bool)) → Option Bool)) (v : (List (Int × Int × Int × Int × Bool)) × Int × Int × Int × Int × Int) : Option Bool :=
  bif (decide (((v.1).length : Int) > (100 : Int))) then
    some (true)
  else
    (F10_0 (v.1, (v.2.1, ((v.2.2.1, v.2.2.2.1), v.2.2.2.2)))).bind fun r1341 =>
    (F11_0 (v.1, (v.2.1, ((v.2.2.1, v.2.2.2.1), v.2.2.2.2)))).bind fun r1342 =>
    bif (((r1341).length : Int) != ((r1342).length : Int)) then
      some (false)
    else
      (F12_0 (v.1, (v.2.1, r1341))).bind fun r1343 =>
      (F13_0 (v.1, (v.2.1, r1342))).bind fun r1344 =>
      bif (r1343 != r1344) then
        some (false)
      else
        K ((0 : Int), (r1342, r1341))

def K3_0 : Nat → ((Int × (List (Int × Int × Bool)) × List (Int × Int × Bool)) → Option Bool)
  | 0 => (fun _ => none)
  | n + 1 => (B3_0_8 (K3_0 n))
def fuel3_0 (v : (List (Int × Int × Int × Int × Bool)) × Int × Int × Int × Int × Int) : Nat := 1000
def F3_0 (v : (List (Int × Int × Int × Int × Bool)) × Int × Int × Int × Int × Int) : Option Bool := E3_0 (K3_0 (fuel3_0 v)) v
noncomputable def k3_0 : List (Known Try.prog E) := [Known.of envOk [7, 1, 9, 9] [(.ros 40), .keep, (.agg [.keep, .keep]), (.agg [.keep, .keep])] v10_0 F10_0 w10_0 ok10_0, Known.of envOk [7, 1, 9, 9] [(.ros 40), .keep, (.agg [.keep, .keep]), (.agg [.keep, .keep])] v11_0 F11_0 w11_0 ok11_0, Known.of envOk [7, 1, 7] [(.ros 40), .keep, (.ros 35)] v12_0 F12_0 w12_0 ok12_0, Known.of envOk [7, 1, 7] [(.ros 40), .keep, (.ros 36)] v13_0 F13_0 w13_0 ok13_0, Known.of envOk [] [] v14_0 F14_0 w14_0 ok14_0]
def s3_0_8 : List (Nat × Pat) := [(7, (.own 0 35)), (8, (.own 1 36)), (9, .keep)]
noncomputable def L3_0 (n id : Nat) (st : St G) : Option Bool := match Nat.beq id 8 with | true => cutK Try.prog s3_0_8 [] c3_0_8.dec (K3_0 n) st | false => none
set_option maxRecDepth 100000 in
theorem e3_0 (n : Nat) (v : (List (Int × Int × Int × Int × Bool)) × Int × Int × Int × Int × Int) : ev Try.prog E (oracle k3_0) Try.f3.ntmps (fun x => mem x [8]) (L3_0 n) (finA Try.prog E Try.f3.results.toList [] w3_0.alts) 4000 [.code (Try.f3.body.getD .skip)] (argSt (v3_0.enc v)) = E3_0 (K3_0 n) v := by kernel_rfl
set_option maxRecDepth 100000 in
theorem b3_0_8 (n : Nat) (v : Int × (List (Int × Int × Bool)) × List (Int × Int × Bool)) : evCut Try.prog E (oracle k3_0) Try.f3.ntmps (fun x => mem x [8]) (L3_0 n) (finA Try.prog E Try.f3.results.toList [] w3_0.alts) 4000 (todoAt (Try.f3.body.getD .skip) 8) (cutSt s3_0_8 (c3_0_8.enc v)) = B3_0_8 (K3_0 n) v := by kernel_rfl
theorem ok3_0 : FnOk Try.prog E 3 v3_0.enc F3_0 w3_0.enc :=
  fn_known (fn := Try.f3) (c := (Try.f3.body.getD .skip)) Try.func3 (by kernel_rfl) rfl envOk (oracle_ok k3_0) mixed v3_0 F3_0 w3_0 [] [8] 4000 L3_0 (by kernel_rfl)
    (List.forall_mem_cons.2 ⟨⟨_, s3_0_8, c3_0_8.dec, c3_0_8.enc, fun n => (K3_0 n), c3_0_8.ok, fun _ _ => rfl, fun _ => rfl, fun n v _ h => (b3_0_8 n v).trans h⟩, fun _ h => (nomatch h)⟩) (fun v _ h => ⟨fuel3_0 v, (e3_0 _ v).trans h⟩) (fun _ => by kernel_rfl) (fun _ => by kernel_rfl) (fun _ _ => by kernel_rfl)
/- chicane/chicanelaw30.GateRow -/
abbrev A4_0 : Type := (List (Int × Int × Int × Int × Bool)) × Int × Int × Int × Int × Int
abbrev R4_0 : Type := Bool
def v4_0 : Pk G ((List (Int × Int × Int × Int × Bool)) × Int × Int × Int × Int × Int) := (Pk.fst (pk (Sh.cons (Sh.ros 40) (Sh.cons (Sh.int .i64) (Sh.fst (Sh.cons (Sh.agg (Sh.cons (Sh.int .i64) (Sh.cons (Sh.int .i64) (Sh.cons (Sh.int .i64) (Sh.fst (Sh.cons (Sh.int .i64) Sh.nil)))))) Sh.nil)))) Sh.hnil))
def w4_0 : Wk G Bool := (Wk.one [.keep] (Pk.fst (pk (Sh.fst (Sh.cons Sh.bool Sh.nil)) Sh.hnil)))
def c4_0_7 : Pk G (((List (Int × Int × Int × Int × Bool)) × Int × Int) × (List (Int × Int × Bool)) × Int × Int × Int × Int) := (pk (Sh.cons (Sh.ros 40) (Sh.cons (Sh.int .i64) (Sh.snd (Sh.cons (Sh.ptr 0 0) (Sh.snd (Sh.cons (Sh.osl 1) (Sh.fst (Sh.cons (Sh.int .i64) Sh.nil)))))))) (Sh.hrow 1 35 (Sh.fst (Sh.hfix 0 26 (Sh.cons (Sh.int .i64) (Sh.cons (Sh.int .i64) (Sh.cons (Sh.int .i64) (Sh.fst (Sh.cons (Sh.int .i64) Sh.nil))))) Sh.hnil))))
def B4_0_7 (K : ((((List (Int × Int × Int × Int × Bool)) × Int × Int) × (List (Int × Int × Bool)) × Int × Int × Int × Int) → Option Bool)) (v : ((List (Int × Int × Int × Int × Bool)) × Int × Int) × (List (Int × Int × Bool)) × Int × Int × Int × Int) : Option Bool :=
  bif (decide (v.1.2.2 < ((v.2.1).length : Int))) then
    (idx v.1.2.2 (v.2.1).length).bind fun (x1476 : Nat) =>
    ((v.2.1)[x1476]?).bind fun (x1477 : Int × Int × Bool) =>
    bif (decide (x1477.1 < (0 : Int))) then
      some (false)
    else
      bif (decide (x1477.1 ≥ ((v.1.1).length : Int))) then
        some (false)
      else
        bif x1477.2.2 then
          bif (decide (((v.2.1).length : Int) > (1 : Int))) then
            some (false)
          else
            bif (decide (v.1.2.2 > (0 : Int))) then
              let x1478 : Int := (IntKind.wrap .i64 (v.1.2.2 - (1 : Int)))
              (idx x1478 (v.2.1).length).bind fun (x1479 : Nat) =>
              ((v.2.1)[x1479]?).bind fun (x1480 : Int × Int × Bool) =>
              bif (decide (x1477.2.1 < x1480.2.1)) then
                some (false)
              else
                (rdx v.1.1 x1477.1).bind fun (x1481 : Int × Int × Int × Int × Bool) =>
                bif x1477.2.2 then
                  (F15_0 ((x1481.2.2.1, x1481.2.2.2.1), ((x1481.1, x1481.2.1), ((v.2.2.1, v.2.2.2.1), v.2.2.2.2)))).bind fun r1482 =>
                  bif (!r1482.2) then
                    some (false)
                  else
                    bif (r1482.1 != x1477.2.1) then
                      some (false)
                    else
                      bif (!x1477.2.2) then
                        let x1483 : Int := (IntKind.wrap .i64 (v.1.2.1 + v.1.2.2))
                        (chk (((v.1.1).length : Int) != 0)).bind fun _ =>
                        let x1484 : Int := (Int.tmod x1483 ((v.1.1).length : Int))
                        bif (x1477.1 != x1484) then
                          some (false)
                        else
                          let x1485 : Int := (IntKind.wrap .i64 (v.1.2.2 + (1 : Int)))
                          K ((v.1.1, (v.1.2.1, x1485)), v.2)
                      else
                        let x1486 : Int := (IntKind.wrap .i64 (v.1.2.2 + (1 : Int)))
                        K ((v.1.1, (v.1.2.1, x1486)), v.2)
                else
                  (F15_0 ((x1481.1, x1481.2.1), ((x1481.2.2.1, x1481.2.2.2.1), ((v.2.2.1, v.2.2.2.1), v.2.2.2.2)))).bind fun r1487 =>
                  bif (!r1487.2) then
                    some (false)
                  else
                    bif (r1487.1 != x1477.2.1) then
                      some (false)
                    else
                      bif (!x1477.2.2) then
                        let x1488 : Int := (IntKind.wrap .i64 (v.1.2.1 + v.1.2.2))
                        (chk (((v.1.1).length : Int) != 0)).bind fun _ =>
                        let x1489 : Int := (Int.tmod x1488 ((v.1.1).length : Int))
                        bif (x1477.1 != x1489) then
                          some (false)
                        else
                          let x1490 : Int := (IntKind.wrap .i64 (v.1.2.2 + (1 : Int)))
                          K ((v.1.1, (v.1.2.1, x1490)), v.2)
                      else
                        let x1491 : Int := (IntKind.wrap .i64 (v.1.2.2 + (1 : Int)))
                        K ((v.1.1, (v.1.2.1, x1491)), v.2)
            else
              (rdx v.1.1 x1477.1).bind fun (x1492 : Int × Int × Int × Int × Bool) =>
              bif x1477.2.2 then
                (F15_0 ((x1492.2.2.1, x1492.2.2.2.1), ((x1492.1, x1492.2.1), ((v.2.2.1, v.2.2.2.1), v.2.2.2.2)))).bind fun r1493 =>
                bif (!r1493.2) then
                  some (false)
                else
                  bif (r1493.1 != x1477.2.1) then
                    some (false)
                  else
                    bif (!x1477.2.2) then
                      let x1494 : Int := (IntKind.wrap .i64 (v.1.2.1 + v.1.2.2))
                      (chk (((v.1.1).length : Int) != 0)).bind fun _ =>
                      let x1495 : Int := (Int.tmod x1494 ((v.1.1).length : Int))
                      bif (x1477.1 != x1495) then
                        some (false)
                      else
                        let x1496 : Int := (IntKind.wrap .i64 (v.1.2.2 + (1 : Int)))
                        K ((v.1.1, (v.1.2.1, x1496)), v.2)
                    else
                      let x1497 : Int := (IntKind.wrap .i64 (v.1.2.2 + (1 : Int)))
                      K ((v.1.1, (v.1.2.1, x1497)), v.2)
              else
                (F15_0 ((x1492.1, x1492.2.1), ((x1492.2.2.1, x1492.2.2.2.1), ((v.2.2.1, v.2.2.2.1), v.2.2.2.2)))).bind fun r1498 =>
                bif (!r1498.2) then
                  some (false)
                else
                  bif (r1498.1 != x1477.2.1) then
                    some (false)
                  else
                    bif (!x1477.2.2) then
                      let x1499 : Int := (IntKind.wrap .i64 (v.1.2.1 + v.1.2.2))
                      (chk (((v.1.1).length : Int) != 0)).bind fun _ =>
                      let x1500 : Int := (Int.tmod x1499 ((v.1.1).length : Int))
                      bif (x1477.1 != x1500) then
                        some (false)
                      else
                        let x1501 : Int := (IntKind.wrap .i64 (v.1.2.2 + (1 : Int)))
                        K ((v.1.1, (v.1.2.1, x1501)), v.2)
                    else
                      let x1502 : Int := (IntKind.wrap .i64 (v.1.2.2 + (1 : Int)))
                      K ((v.1.1, (v.1.2.1, x1502)), v.2)
        else
          bif (decide (v.1.2.2 > (0 : Int))) then
            let x1503 : Int := (IntKind.wrap .i64 (v.1.2.2 - (1 : Int)))
            (idx x1503 (v.2.1).length).bind fun (x1504 : Nat) =>
            ((v.2.1)[x1504]?).bind fun (x1505 : Int × Int × Bool) =>
            bif (decide (x1477.2.1 < x1505.2.1)) then
              some (false)
            else
              (rdx v.1.1 x1477.1).bind fun (x1506 : Int × Int × Int × Int × Bool) =>
              bif x1477.2.2 then
                (F15_0 ((x1506.2.2.1, x1506.2.2.2.1), ((x1506.1, x1506.2.1), ((v.2.2.1, v.2.2.2.1), v.2.2.2.2)))).bind fun r1507 =>
                bif (!r1507.2) then
                  some (false)
                else
                  bif (r1507.1 != x1477.2.1) then
                    some (false)
                  else
                    bif (!x1477.2.2) then
                      let x1508 : Int := (IntKind.wrap .i64 (v.1.2.1 + v.1.2.2))
                      (chk (((v.1.1).length : Int) != 0)).bind fun _ =>
                      let x1509 : Int := (Int.tmod x1508 ((v.1.1).length : Int))
                      bif (x1477.1 != x1509) then
                        some (false)
                      else
                        let x1510 : Int := (IntKind.wrap .i64 (v.1.2.2 + (1 : Int)))
                        K ((v.1.1, (v.1.2.1, x1510)), v.2)
                    else
                      let x1511 : Int := (IntKind.wrap .i64 (v.1.2.2 + (1 : Int)))
                      K ((v.1.1, (v.1.2.1, x1511)), v.2)
              else
                (F15_0 ((x1506.1, x1506.2.1), ((x1506.2.2.1, x1506.2.2.2.1), ((v.2.2.1, v.2.2.2.1), v.2.2.2.2)))).bind fun r1512 =>
                bif (!r1512.2) then
                  some (false)
                else
                  bif (r1512.1 != x1477.2.1) then
                    some (false)
                  else
                    bif (!x1477.2.2) then
                      let x1513 : Int := (IntKind.wrap .i64 (v.1.2.1 + v.1.2.2))
                      (chk (((v.1.1).length : Int) != 0)).bind fun _ =>
                      let x1514 : Int := (Int.tmod x1513 ((v.1.1).length : Int))
                      bif (x1477.1 != x1514) then
                        some (false)
                      else
                        let x1515 : Int := (IntKind.wrap .i64 (v.1.2.2 + (1 : Int)))
                        K ((v.1.1, (v.1.2.1, x1515)), v.2)
                    else
                      let x1516 : Int := (IntKind.wrap .i64 (v.1.2.2 + (1 : Int)))
                      K ((v.1.1, (v.1.2.1, x1516)), v.2)
          else
            (rdx v.1.1 x1477.1).bind fun (x1517 : Int × Int × Int × Int × Bool) =>
            bif x1477.2.2 then
              (F15_0 ((x1517.2.2.1, x1517.2.2.2.1), ((x1517.1, x1517.2.1), ((v.2.2.1, v.2.2.2.1), v.2.2.2.2)))).bind fun r1518 =>
              bif (!r1518.2) then
                some (false)
              else
                bif (r1518.1 != x1477.2.1) then
                  some (false)
                else
                  bif (!x1477.2.2) then
                    let x1519 : Int := (IntKind.wrap .i64 (v.1.2.1 + v.1.2.2))
                    (chk (((v.1.1).length : Int) != 0)).bind fun _ =>
                    let x1520 : Int := (Int.tmod x1519 ((v.1.1).length : Int))
                    bif (x1477.1 != x1520) then
                      some (false)
                    else
                      let x1521 : Int := (IntKind.wrap .i64 (v.1.2.2 + (1 : Int)))
                      K ((v.1.1, (v.1.2.1, x1521)), v.2)
                  else
                    let x1522 : Int := (IntKind.wrap .i64 (v.1.2.2 + (1 : Int)))
                    K ((v.1.1, (v.1.2.1, x1522)), v.2)
            else
              (F15_0 ((x1517.1, x1517.2.1), ((x1517.2.2.1, x1517.2.2.2.1), ((v.2.2.1, v.2.2.2.1), v.2.2.2.2)))).bind fun r1523 =>
              bif (!r1523.2) then
                some (false)
              else
                bif (r1523.1 != x1477.2.1) then
                  some (false)
                else
                  bif (!x1477.2.2) then
                    let x1524 : Int := (IntKind.wrap .i64 (v.1.2.1 + v.1.2.2))
                    (chk (((v.1.1).length : Int) != 0)).bind fun _ =>
                    let x1525 : Int := (Int.tmod x1524 ((v.1.1).length : Int))
                    bif (x1477.1 != x1525) then
                      some (false)
                    else
                      let x1526 : Int := (IntKind.wrap .i64 (v.1.2.2 + (1 : Int)))
                      K ((v.1.1, (v.1.2.1, x1526)), v.2)
                  else
                    let x1527 : Int := (IntKind.wrap .i64 (v.1.2.2 + (1 : Int)))
                    K ((v.1.1, (v.1.2.1, x1527)), v.2)
  else
    bif (decide (((v.2.1).length : Int) ≤ ((v.1.1).length : Int))) then
      (F14_0 ()).bind fun r1528 =>
      some (r1528)
    else
      some (false)

def E4_0 (K : ((((List (Int × Int × Int × Int × Bool)) × Int × Int) × (List (Int × Int × Bool)) × Int × Int × Int × Int) → Option Bool)) (v : (List (Int × Int × Int × Int × Bool)) × Int × Int × Int × Int × Int) : Option Bool :=
  bif (decide (((v.1).length : Int) > (100 : Int))) then
    some (true)
  else
    (F10_0 (v.1, (v.2.1, ((v.2.2.1, v.2.2.2.1), v.2.2.2.2)))).bind fun r1473 =>
    bif (decide (v.2.1 < (0 : Int))) then
      bif (((r1473).length : Int) == (0 : Int)) then
        (F14_0 ()).bind fun r1474 =>
        some (r1474)
      else
        some (false)
    else
      bif (decide (v.2.1 ≥ ((v.1).length : Int))) then
        bif (((r1473).length : Int) == (0 : Int)) then
          (F14_0 ()).bind fun r1475 =>
          some (r1475)
        else
          some (false)
      else
        K ((v.1, (v.2.1, (0 : Int))), (r1473, v.2.2))

def K4_0 : Nat → ((((List (Int × Int × Int × Int × Bool)) × Int × Int) × (List (Int × Int × Bool)) × Int × Int × Int × Int) → Option Bool)
  | 0 => (fun _ => none)
  | n + 1 => (B4_0_7 (K4_0 n))
def fuel4_0 (v : (List (Int × Int × Int × Int × Bool)) × Int × Int × Int × Int × Int) : Nat := 1000
def F4_0 (v : (List (Int × Int × Int × Int × Bool)) × Int × Int × Int × Int × Int) : Option Bool := E4_0 (K4_0 (fuel4_0 v)) v
noncomputable def k4_0 : List (Known Try.prog E) := [Known.of envOk [7, 1, 9, 9] [(.ros 40), .keep, (.agg [.keep, .keep]), (.agg [.keep, .keep])] v10_0 F10_0 w10_0 ok10_0, Known.of envOk [] [] v14_0 F14_0 w14_0 ok14_0, Known.of envOk [9, 9, 9, 9] [(.agg [.keep, .keep]), (.agg [.keep, .keep]), (.agg [.keep, .keep]), (.agg [.keep, .keep])] v15_0 F15_0 w15_0 ok15_0]
def s4_0_7 : List (Nat × Pat) := [(0, (.ros 40)), (1, .keep), (5, (.ptr 0 0 26 [.keep, .keep, .keep, .keep])), (7, (.own 1 35)), (8, .keep)]
noncomputable def L4_0 (n id : Nat) (st : St G) : Option Bool := match Nat.beq id 7 with | true => cutK Try.prog s4_0_7 [] c4_0_7.dec (K4_0 n) st | false => none
set_option maxRecDepth 100000 in
theorem e4_0 (n : Nat) (v : (List (Int × Int × Int × Int × Bool)) × Int × Int × Int × Int × Int) : ev Try.prog E (oracle k4_0) Try.f4.ntmps (fun x => mem x [7]) (L4_0 n) (finA Try.prog E Try.f4.results.toList [] w4_0.alts) 4000 [.code (Try.f4.body.getD .skip)] (argSt (v4_0.enc v)) = E4_0 (K4_0 n) v := by kernel_rfl
set_option maxRecDepth 100000 in
theorem b4_0_7 (n : Nat) (v : ((List (Int × Int × Int × Int × Bool)) × Int × Int) × (List (Int × Int × Bool)) × Int × Int × Int × Int) : evCut Try.prog E (oracle k4_0) Try.f4.ntmps (fun x => mem x [7]) (L4_0 n) (finA Try.prog E Try.f4.results.toList [] w4_0.alts) 4000 (todoAt (Try.f4.body.getD .skip) 7) (cutSt s4_0_7 (c4_0_7.enc v)) = B4_0_7 (K4_0 n) v := by kernel_rfl
theorem ok4_0 : FnOk Try.prog E 4 v4_0.enc F4_0 w4_0.enc :=
  fn_known (fn := Try.f4) (c := (Try.f4.body.getD .skip)) Try.func4 (by kernel_rfl) rfl envOk (oracle_ok k4_0) mixed v4_0 F4_0 w4_0 [] [7] 4000 L4_0 (by kernel_rfl)
    (List.forall_mem_cons.2 ⟨⟨_, s4_0_7, c4_0_7.dec, c4_0_7.enc, fun n => (K4_0 n), c4_0_7.ok, fun _ _ => rfl, fun _ => rfl, fun n v _ h => (b4_0_7 n v).trans h⟩, fun _ h => (nomatch h)⟩) (fun v _ h => ⟨fuel4_0 v, (e4_0 _ v).trans h⟩) (fun _ => by kernel_rfl) (fun _ => by kernel_rfl) (fun _ _ => by kernel_rfl)
/- chicane/chicanelaw30.GateOnce -/
abbrev A5_0 : Type := (Int × Int × Int × Int × Bool) × List (Int × Int)
abbrev R5_0 : Type := Bool
def v5_0 : Pk G ((Int × Int × Int × Int × Bool) × List (Int × Int)) := (Pk.fst (pk (Sh.cons (Sh.agg (Sh.cons (Sh.int .i64) (Sh.cons (Sh.int .i64) (Sh.cons (Sh.int .i64) (Sh.cons (Sh.int .i64) (Sh.fst (Sh.cons Sh.bool Sh.nil))))))) (Sh.fst (Sh.cons (Sh.ros 25) Sh.nil))) Sh.hnil))
def w5_0 : Wk G Bool := (Wk.one [.keep] (Pk.fst (pk (Sh.fst (Sh.cons Sh.bool Sh.nil)) Sh.hnil)))
def c5_0_5 : Pk G (((List (Int × Int)) × Int × Int) × Int × Int × Int × Int × Bool) := (pk (Sh.cons (Sh.ros 25) (Sh.snd (Sh.cons (Sh.ptr 0 0) (Sh.cons (Sh.int .i64) (Sh.fst (Sh.cons (Sh.int .i64) Sh.nil)))))) (Sh.fst (Sh.hfix 0 40 (Sh.cons (Sh.int .i64) (Sh.cons (Sh.int .i64) (Sh.cons (Sh.int .i64) (Sh.cons (Sh.int .i64) (Sh.fst (Sh.cons Sh.bool Sh.nil)))))) Sh.hnil)))
def B5_0_5 (K : ((((List (Int × Int)) × Int × Int) × Int × Int × Int × Int × Bool) → Option Bool)) (v : ((List (Int × Int)) × Int × Int) × Int × Int × Int × Int × Bool) : Option Bool :=
  bif (decide (v.1.2.2 < ((v.1.1).length : Int))) then
    let x1573 : Int := (IntKind.wrap .i64 (v.1.2.2 - (1 : Int)))
    (rdx v.1.1 x1573).bind fun (x1574 : Int × Int) =>
    (rdx v.1.1 v.1.2.2).bind fun (x1575 : Int × Int) =>
    (F10_0 (([v.2] : List (Int × Int × Int × Int × Bool)), ((0 : Int), (x1574, x1575)))).bind fun r1576 =>
    bif (((r1576).length : Int) == (1 : Int)) then
      (idx (0 : Int) (r1576).length).bind fun (x1577 : Nat) =>
      ((r1576)[x1577]?).bind fun (x1578 : Int × Int × Bool) =>
      bif (decide (((r1576).length : Int) > (1 : Int))) then
        some (false)
      else
        bif (!x1578.2.2) then
          let x1579 : Int := (IntKind.wrap .i64 (v.1.2.2 - (1 : Int)))
          (rdx v.1.1 x1579).bind fun (x1580 : Int × Int) =>
          (F16_0 ((v.2.1, v.2.2.1), ((v.2.2.2.1, v.2.2.2.2.1), x1580))).bind fun r1581 =>
          bif (decide (r1581 > (0 : Int))) then
            some (false)
          else
            (rdx v.1.1 v.1.2.2).bind fun (x1582 : Int × Int) =>
            (F16_0 ((v.2.1, v.2.2.1), ((v.2.2.2.1, v.2.2.2.2.1), x1582))).bind fun r1583 =>
            bif (decide (r1583 ≤ (0 : Int))) then
              some (false)
            else
              bif (decide (v.1.2.1 > (0 : Int))) then
                some (false)
              else
                let x1584 : Int := (IntKind.wrap .i64 (v.1.2.2 + (1 : Int)))
                K ((v.1.1, ((1 : Int), x1584)), v.2)
        else
          (rdx v.1.1 v.1.2.2).bind fun (x1585 : Int × Int) =>
          (F16_0 ((v.2.1, v.2.2.1), ((v.2.2.2.1, v.2.2.2.2.1), x1585))).bind fun r1586 =>
          bif (decide (r1586 ≤ (0 : Int))) then
            let x1587 : Int := (IntKind.wrap .i64 (v.1.2.2 + (1 : Int)))
            K ((v.1.1, ((0 : Int), x1587)), v.2)
          else
            let x1588 : Int := (IntKind.wrap .i64 (v.1.2.2 + (1 : Int)))
            K ((v.1.1, (v.1.2.1, x1588)), v.2)
    else
      bif (decide (((r1576).length : Int) > (1 : Int))) then
        some (false)
      else
        (rdx v.1.1 v.1.2.2).bind fun (x1589 : Int × Int) =>
        (F16_0 ((v.2.1, v.2.2.1), ((v.2.2.2.1, v.2.2.2.2.1), x1589))).bind fun r1590 =>
        bif (decide (r1590 ≤ (0 : Int))) then
          let x1591 : Int := (IntKind.wrap .i64 (v.1.2.2 + (1 : Int)))
          K ((v.1.1, ((0 : Int), x1591)), v.2)
        else
          let x1592 : Int := (IntKind.wrap .i64 (v.1.2.2 + (1 : Int)))
          K ((v.1.1, (v.1.2.1, x1592)), v.2)
  else
    (F14_0 ()).bind fun r1593 =>
    some (r1593)

def E5_0 (K : ((((List (Int × Int)) × Int × Int) × Int × Int × Int × Int × Bool) → Option Bool)) (v : (Int × Int × Int × Int × Bool) × List (Int × Int)) : Option Bool :=
  bif (decide (((v.2).length : Int) > (100 : Int))) then
    some (true)
  else
    K ((v.2, ((0 : Int), (1 : Int))), v.1)

def K5_0 : Nat → ((((List (Int × Int)) × Int × Int) × Int × Int × Int × Int × Bool) → Option Bool)
  | 0 => (fun _ => none)
  | n + 1 => (B5_0_5 (K5_0 n))
def fuel5_0 (v : (Int × Int × Int × Int × Bool) × List (Int × Int)) : Nat := 1000
def F5_0 (v : (Int × Int × Int × Int × Bool) × List (Int × Int)) : Option Bool := E5_0 (K5_0 (fuel5_0 v)) v
noncomputable def k5_0 : List (Known Try.prog E) := [Known.of envOk [7, 1, 9, 9] [(.ros 40), .keep, (.agg [.keep, .keep]), (.agg [.keep, .keep])] v10_0 F10_0 w10_0 ok10_0, Known.of envOk [9, 9, 9] [(.agg [.keep, .keep]), (.agg [.keep, .keep]), (.agg [.keep, .keep])] v16_0 F16_0 w16_0 ok16_0, Known.of envOk [] [] v14_0 F14_0 w14_0 ok14_0]
def s5_0_5 : List (Nat × Pat) := [(1, (.ros 25)), (2, (.ptr 0 0 40 [.keep, .keep, .keep, .keep, .keep])), (5, .keep), (6, .keep)]
noncomputable def L5_0 (n id : Nat) (st : St G) : Option Bool := match Nat.beq id 5 with | true => cutK Try.prog s5_0_5 [] c5_0_5.dec (K5_0 n) st | false => none
set_option maxRecDepth 100000 in
theorem e5_0 (n : Nat) (v : (Int × Int × Int × Int × Bool) × List (Int × Int)) : ev Try.prog E (oracle k5_0) Try.f5.ntmps (fun x => mem x [5]) (L5_0 n) (finA Try.prog E Try.f5.results.toList [] w5_0.alts) 4000 [.code (Try.f5.body.getD .skip)] (argSt (v5_0.enc v)) = E5_0 (K5_0 n) v := by kernel_rfl
set_option maxRecDepth 100000 in
theorem b5_0_5 (n : Nat) (v : ((List (Int × Int)) × Int × Int) × Int × Int × Int × Int × Bool) : evCut Try.prog E (oracle k5_0) Try.f5.ntmps (fun x => mem x [5]) (L5_0 n) (finA Try.prog E Try.f5.results.toList [] w5_0.alts) 4000 (todoAt (Try.f5.body.getD .skip) 5) (cutSt s5_0_5 (c5_0_5.enc v)) = B5_0_5 (K5_0 n) v := by kernel_rfl
theorem ok5_0 : FnOk Try.prog E 5 v5_0.enc F5_0 w5_0.enc :=
  fn_known (fn := Try.f5) (c := (Try.f5.body.getD .skip)) Try.func5 (by kernel_rfl) rfl envOk (oracle_ok k5_0) mixed v5_0 F5_0 w5_0 [] [5] 4000 L5_0 (by kernel_rfl)
    (List.forall_mem_cons.2 ⟨⟨_, s5_0_5, c5_0_5.dec, c5_0_5.enc, fun n => (K5_0 n), c5_0_5.ok, fun _ _ => rfl, fun _ => rfl, fun n v _ h => (b5_0_5 n v).trans h⟩, fun _ h => (nomatch h)⟩) (fun v _ h => ⟨fuel5_0 v, (e5_0 _ v).trans h⟩) (fun _ => by kernel_rfl) (fun _ => by kernel_rfl) (fun _ _ => by kernel_rfl)
/- chicane/chicanelaw30.GateNext -/
abbrev A6_0 : Type := (List (Int × Int × Int × Int × Bool)) × Int × List (Int × Int × Bool)
abbrev R6_0 : Type := Bool
def v6_0 : Pk G ((List (Int × Int × Int × Int × Bool)) × Int × List (Int × Int × Bool)) := (Pk.fst (pk (Sh.cons (Sh.ros 40) (Sh.cons (Sh.int .i64) (Sh.fst (Sh.cons (Sh.ros 35) Sh.nil)))) Sh.hnil))
def w6_0 : Wk G Bool := (Wk.one [.keep] (Pk.fst (pk (Sh.fst (Sh.cons Sh.bool Sh.nil)) Sh.hnil)))
def c6_0_8 : Pk G ((List (Int × Int × Int × Int × Bool)) × Int × (List (Int × Int × Bool)) × Int × Int × Int) := (Pk.fst (pk (Sh.cons (Sh.ros 40) (Sh.cons (Sh.int .i64) (Sh.cons (Sh.ros 35) (Sh.cons (Sh.int .i64) (Sh.cons (Sh.int .i64) (Sh.fst (Sh.cons (Sh.int .i64) Sh.nil))))))) Sh.hnil))
def B6_0_8 (K : (((List (Int × Int × Int × Int × Bool)) × Int × (List (Int × Int × Bool)) × Int × Int × Int) → Option Bool)) (v : (List (Int × Int × Int × Int × Bool)) × Int × (List (Int × Int × Bool)) × Int × Int × Int) : Option Bool :=
  bif (decide (v.2.2.2.2.2 < ((v.2.2.1).length : Int))) then
    (rdx v.2.2.1 v.2.2.2.2.2).bind fun (x1621 : Int × Int × Bool) =>
    bif (!x1621.2.2) then
      let x1622 : Int := (IntKind.wrap .i64 (v.2.2.2.2.1 + (1 : Int)))
      let x1623 : Int := (IntKind.wrap .i64 (v.2.2.2.2.2 + (1 : Int)))
      K (v.1, (v.2.1, (v.2.2.1, (v.2.2.2.1, (x1622, x1623)))))
    else
      let x1624 : Int := (IntKind.wrap .i64 (v.2.2.2.2.2 + (1 : Int)))
      K (v.1, (v.2.1, (v.2.2.1, (v.2.2.2.1, (v.2.2.2.2.1, x1624)))))
  else
    bif (decide (v.2.2.2.1 ≥ (0 : Int))) then
      bif (decide (v.2.2.2.1 < ((v.1).length : Int))) then
        let x1625 : Int := (IntKind.wrap .i64 (v.2.2.2.1 - v.2.1))
        let x1626 : Int := (IntKind.wrap .i64 (x1625 - v.2.2.2.2.1))
        (chk (((v.1).length : Int) != 0)).bind fun _ =>
        let x1627 : Int := (Int.tmod x1626 ((v.1).length : Int))
        bif (x1627 == (0 : Int)) then
          (F14_0 ()).bind fun r1628 =>
          some (r1628)
        else
          some (false)
      else
        some (false)
    else
      some (false)

def E6_0 (K : (((List (Int × Int × Int × Int × Bool)) × Int × (List (Int × Int × Bool)) × Int × Int × Int) → Option Bool)) (v : (List (Int × Int × Int × Int × Bool)) × Int × List (Int × Int × Bool)) : Option Bool :=
  bif (decide (((v.1).length : Int) > (100 : Int))) then
    some (true)
  else
    bif (decide (((v.2.2).length : Int) > (200 : Int))) then
      some (true)
    else
      (F12_0 v).bind fun r1618 =>
      bif (decide (v.2.1 < (0 : Int))) then
        bif (r1618 == v.2.1) then
          (F14_0 ()).bind fun r1619 =>
          some (r1619)
        else
          some (false)
      else
        bif (decide (v.2.1 ≥ ((v.1).length : Int))) then
          bif (r1618 == v.2.1) then
            (F14_0 ()).bind fun r1620 =>
            some (r1620)
          else
            some (false)
        else
          K (v.1, (v.2.1, (v.2.2, (r1618, ((0 : Int), (0 : Int))))))

def K6_0 : Nat → (((List (Int × Int × Int × Int × Bool)) × Int × (List (Int × Int × Bool)) × Int × Int × Int) → Option Bool)
  | 0 => (fun _ => none)
  | n + 1 => (B6_0_8 (K6_0 n))
def fuel6_0 (v : (List (Int × Int × Int × Int × Bool)) × Int × List (Int × Int × Bool)) : Nat := 1000
def F6_0 (v : (List (Int × Int × Int × Int × Bool)) × Int × List (Int × Int × Bool)) : Option Bool := E6_0 (K6_0 (fuel6_0 v)) v
noncomputable def k6_0 : List (Known Try.prog E) := [Known.of envOk [7, 1, 7] [(.ros 40), .keep, (.ros 35)] v12_0 F12_0 w12_0 ok12_0, Known.of envOk [] [] v14_0 F14_0 w14_0 ok14_0]
def s6_0_8 : List (Nat × Pat) := [(0, (.ros 40)), (1, .keep), (2, (.ros 35)), (7, .keep), (8, .keep), (9, .keep)]
noncomputable def L6_0 (n id : Nat) (st : St G) : Option Bool := match Nat.beq id 8 with | true => cutK Try.prog s6_0_8 [] c6_0_8.dec (K6_0 n) st | false => none
set_option maxRecDepth 100000 in
theorem e6_0 (n : Nat) (v : (List (Int × Int × Int × Int × Bool)) × Int × List (Int × Int × Bool)) : ev Try.prog E (oracle k6_0) Try.f6.ntmps (fun x => mem x [8]) (L6_0 n) (finA Try.prog E Try.f6.results.toList [] w6_0.alts) 4000 [.code (Try.f6.body.getD .skip)] (argSt (v6_0.enc v)) = E6_0 (K6_0 n) v := by kernel_rfl
set_option maxRecDepth 100000 in
theorem b6_0_8 (n : Nat) (v : (List (Int × Int × Int × Int × Bool)) × Int × (List (Int × Int × Bool)) × Int × Int × Int) : evCut Try.prog E (oracle k6_0) Try.f6.ntmps (fun x => mem x [8]) (L6_0 n) (finA Try.prog E Try.f6.results.toList [] w6_0.alts) 4000 (todoAt (Try.f6.body.getD .skip) 8) (cutSt s6_0_8 (c6_0_8.enc v)) = B6_0_8 (K6_0 n) v := by kernel_rfl
theorem ok6_0 : FnOk Try.prog E 6 v6_0.enc F6_0 w6_0.enc :=
  fn_known (fn := Try.f6) (c := (Try.f6.body.getD .skip)) Try.func6 (by kernel_rfl) rfl envOk (oracle_ok k6_0) mixed v6_0 F6_0 w6_0 [] [8] 4000 L6_0 (by kernel_rfl)
    (List.forall_mem_cons.2 ⟨⟨_, s6_0_8, c6_0_8.dec, c6_0_8.enc, fun n => (K6_0 n), c6_0_8.ok, fun _ _ => rfl, fun _ => rfl, fun n v _ h => (b6_0_8 n v).trans h⟩, fun _ h => (nomatch h)⟩) (fun v _ h => ⟨fuel6_0 v, (e6_0 _ v).trans h⟩) (fun _ => by kernel_rfl) (fun _ => by kernel_rfl) (fun _ _ => by kernel_rfl)
/- chicane/chicanelaw12.Few -/
abbrev A28_0 : Type := Int × Int × Int × Int × Int × Int × List Int × List Int × (List (Int × Int × Bool)) × (List (Int × Int)) × (List (List (Int × Int))) × (List (Int × Int × Int × Int × Bool)) × Int × Int × Int × Int
abbrev R28_0 : Type := Bool
def v28_0 : Pk G (Int × Int × Int × Int × Int × Int × List Int × List Int × (List (Int × Int × Bool)) × (List (Int × Int)) × (List (List (Int × Int))) × (List (Int × Int × Int × Int × Bool)) × Int × Int × Int × Int) := (Pk.fst (pk (Sh.fst (Sh.cons (Sh.agg (Sh.cons (Sh.int .i64) (Sh.cons (Sh.int .i64) (Sh.cons (Sh.int .i64) (Sh.cons (Sh.int .i64) (Sh.cons (Sh.int .i64) (Sh.cons (Sh.int .i64) (Sh.cons (Sh.ros 23) (Sh.cons (Sh.ros 3) (Sh.cons (Sh.ros 110) (Sh.cons (Sh.ros 25) (Sh.cons (Sh.ros 43) (Sh.cons (Sh.ros 40) (Sh.cons (Sh.int .i64) (Sh.cons (Sh.int .i64) (Sh.cons (Sh.int .u32) (Sh.fst (Sh.cons (Sh.int .i64) Sh.nil)))))))))))))))))) Sh.nil)) Sh.hnil))
def w28_0 : Wk G Bool := (Wk.one [.keep] (Pk.fst (pk (Sh.fst (Sh.cons Sh.bool Sh.nil)) Sh.hnil)))
def F28_0 (v : Int × Int × Int × Int × Int × Int × List Int × List Int × (List (Int × Int × Bool)) × (List (Int × Int)) × (List (List (Int × Int))) × (List (Int × Int × Int × Int × Bool)) × Int × Int × Int × Int) : Option Bool :=
  bif (decide (((v.2.2.2.2.2.2.1).length : Int) ≤ (1200 : Int))) then
    bif (decide (((v.2.2.2.2.2.2.2.1).length : Int) ≤ (1000 : Int))) then
      some (decide (((v.2.2.2.2.2.2.2.2.1).length : Int) ≤ (20 : Int)))
    else
      some (false)
  else
    some (false)

noncomputable def k28_0 : List (Known Try.prog E) := []
noncomputable def L28_0 (n id : Nat) (st : St G) : Option Bool := none
set_option maxRecDepth 100000 in
theorem e28_0 (n : Nat) (v : Int × Int × Int × Int × Int × Int × List Int × List Int × (List (Int × Int × Bool)) × (List (Int × Int)) × (List (List (Int × Int))) × (List (Int × Int × Int × Int × Bool)) × Int × Int × Int × Int) : ev Try.prog E (oracle k28_0) Try.f28.ntmps (fun x => mem x []) (L28_0 n) (finA Try.prog E Try.f28.results.toList [] w28_0.alts) 4000 [.code (Try.f28.body.getD .skip)] (argSt (v28_0.enc v)) = F28_0 v := by kernel_rfl
theorem ok28_0 : FnOk Try.prog E 28 v28_0.enc F28_0 w28_0.enc :=
  fn_known (fn := Try.f28) (c := (Try.f28.body.getD .skip)) Try.func28 (by kernel_rfl) rfl envOk (oracle_ok k28_0) mixed v28_0 F28_0 w28_0 [] [] 4000 L28_0 (by kernel_rfl)
    (fun _ h => nomatch h) (fun v _ h => ⟨0, (e28_0 _ v).trans h⟩) (fun _ => by kernel_rfl) (fun _ => by kernel_rfl) (fun _ _ => by kernel_rfl)
/- chicane/chicanelaw14.Few -/
abbrev A17_0 : Type := Int × Int × Int × Int × Int × Int × List Int × List Int × (List (Int × Int × Bool)) × (List (Int × Int)) × (List (List (Int × Int))) × (List (Int × Int × Int × Int × Bool)) × Int × Int × Int × Int
abbrev R17_0 : Type := Bool
def v17_0 : Pk G (Int × Int × Int × Int × Int × Int × List Int × List Int × (List (Int × Int × Bool)) × (List (Int × Int)) × (List (List (Int × Int))) × (List (Int × Int × Int × Int × Bool)) × Int × Int × Int × Int) := (Pk.fst (pk (Sh.fst (Sh.cons (Sh.agg (Sh.cons (Sh.int .i64) (Sh.cons (Sh.int .i64) (Sh.cons (Sh.int .i64) (Sh.cons (Sh.int .i64) (Sh.cons (Sh.int .i64) (Sh.cons (Sh.int .i64) (Sh.cons (Sh.ros 23) (Sh.cons (Sh.ros 3) (Sh.cons (Sh.ros 110) (Sh.cons (Sh.ros 25) (Sh.cons (Sh.ros 43) (Sh.cons (Sh.ros 40) (Sh.cons (Sh.int .i64) (Sh.cons (Sh.int .i64) (Sh.cons (Sh.int .u32) (Sh.fst (Sh.cons (Sh.int .i64) Sh.nil)))))))))))))))))) Sh.nil)) Sh.hnil))
def w17_0 : Wk G Bool := (Wk.one [.keep] (Pk.fst (pk (Sh.fst (Sh.cons Sh.bool Sh.nil)) Sh.hnil)))
def c17_0_4 : Pk G (Int × Int × Int × Int × Int × Int × Int × List Int × List Int × (List (Int × Int × Bool)) × (List (Int × Int)) × (List (List (Int × Int))) × (List (Int × Int × Int × Int × Bool)) × Int × Int × Int × Int) := (pk (Sh.snd (Sh.cons (Sh.ptr 0 0) (Sh.fst (Sh.cons (Sh.int .i64) Sh.nil)))) (Sh.fst (Sh.hfix 0 53 (Sh.cons (Sh.int .i64) (Sh.cons (Sh.int .i64) (Sh.cons (Sh.int .i64) (Sh.cons (Sh.int .i64) (Sh.cons (Sh.int .i64) (Sh.cons (Sh.int .i64) (Sh.cons (Sh.ros 23) (Sh.cons (Sh.ros 3) (Sh.cons (Sh.ros 110) (Sh.cons (Sh.ros 25) (Sh.cons (Sh.ros 43) (Sh.cons (Sh.ros 40) (Sh.cons (Sh.int .i64) (Sh.cons (Sh.int .i64) (Sh.cons (Sh.int .u32) (Sh.fst (Sh.cons (Sh.int .i64) Sh.nil))))))))))))))))) Sh.hnil)))
def B17_0_4 (K : ((Int × Int × Int × Int × Int × Int × Int × List Int × List Int × (List (Int × Int × Bool)) × (List (Int × Int)) × (List (List (Int × Int))) × (List (Int × Int × Int × Int × Bool)) × Int × Int × Int × Int) → Option Bool)) (v : Int × Int × Int × Int × Int × Int × Int × List Int × List Int × (List (Int × Int × Bool)) × (List (Int × Int)) × (List (List (Int × Int))) × (List (Int × Int × Int × Int × Bool)) × Int × Int × Int × Int) : Option Bool :=
  bif (decide (v.1 < ((v.2.2.2.2.2.2.2.2.2.2.2.1).length : Int))) then
    (rdx v.2.2.2.2.2.2.2.2.2.2.2.1 v.1).bind fun (x1638 : List (Int × Int)) =>
    bif (decide (((x1638).length : Int) > (100 : Int))) then
      some (false)
    else
      let x1639 : Int := (IntKind.wrap .i64 (v.1 + (1 : Int)))
      K (x1639, v.2)
  else
    some (true)

def E17_0 (K : ((Int × Int × Int × Int × Int × Int × Int × List Int × List Int × (List (Int × Int × Bool)) × (List (Int × Int)) × (List (List (Int × Int))) × (List (Int × Int × Int × Int × Bool)) × Int × Int × Int × Int) → Option Bool)) (v : Int × Int × Int × Int × Int × Int × List Int × List Int × (List (Int × Int × Bool)) × (List (Int × Int)) × (List (List (Int × Int))) × (List (Int × Int × Int × Int × Bool)) × Int × Int × Int × Int) : Option Bool :=
  (F28_0 v).bind fun r1637 =>
  bif (!r1637) then
    some (false)
  else
    bif (decide (((v.2.2.2.2.2.2.2.2.2.1).length : Int) > (100 : Int))) then
      some (false)
    else
      bif (decide (((v.2.2.2.2.2.2.2.2.2.2.1).length : Int) > (20 : Int))) then
        some (false)
      else
        bif (decide (((v.2.2.2.2.2.2.2.2.2.2.2.1).length : Int) > (20 : Int))) then
          some (false)
        else
          K ((0 : Int), v)

def K17_0 : Nat → ((Int × Int × Int × Int × Int × Int × Int × List Int × List Int × (List (Int × Int × Bool)) × (List (Int × Int)) × (List (List (Int × Int))) × (List (Int × Int × Int × Int × Bool)) × Int × Int × Int × Int) → Option Bool)
  | 0 => (fun _ => none)
  | n + 1 => (B17_0_4 (K17_0 n))
def fuel17_0 (v : Int × Int × Int × Int × Int × Int × List Int × List Int × (List (Int × Int × Bool)) × (List (Int × Int)) × (List (List (Int × Int))) × (List (Int × Int × Int × Int × Bool)) × Int × Int × Int × Int) : Nat := 1000
def F17_0 (v : Int × Int × Int × Int × Int × Int × List Int × List Int × (List (Int × Int × Bool)) × (List (Int × Int)) × (List (List (Int × Int))) × (List (Int × Int × Int × Int × Bool)) × Int × Int × Int × Int) : Option Bool := E17_0 (K17_0 (fuel17_0 v)) v
noncomputable def k17_0 : List (Known Try.prog E) := [Known.of envOk [9] [(.agg [.keep, .keep, .keep, .keep, .keep, .keep, (.ros 23), (.ros 3), (.ros 110), (.ros 25), (.ros 43), (.ros 40), .keep, .keep, .keep, .keep])] v28_0 F28_0 w28_0 ok28_0]
def s17_0_4 : List (Nat × Pat) := [(1, (.ptr 0 0 53 [.keep, .keep, .keep, .keep, .keep, .keep, (.ros 23), (.ros 3), (.ros 110), (.ros 25), (.ros 43), (.ros 40), .keep, .keep, .keep, .keep])), (3, .keep)]
noncomputable def L17_0 (n id : Nat) (st : St G) : Option Bool := match Nat.beq id 4 with | true => cutK Try.prog s17_0_4 [] c17_0_4.dec (K17_0 n) st | false => none
set_option maxRecDepth 100000 in
theorem e17_0 (n : Nat) (v : Int × Int × Int × Int × Int × Int × List Int × List Int × (List (Int × Int × Bool)) × (List (Int × Int)) × (List (List (Int × Int))) × (List (Int × Int × Int × Int × Bool)) × Int × Int × Int × Int) : ev Try.prog E (oracle k17_0) Try.f17.ntmps (fun x => mem x [4]) (L17_0 n) (finA Try.prog E Try.f17.results.toList [] w17_0.alts) 4000 [.code (Try.f17.body.getD .skip)] (argSt (v17_0.enc v)) = E17_0 (K17_0 n) v := by kernel_rfl
set_option maxRecDepth 100000 in
theorem b17_0_4 (n : Nat) (v : Int × Int × Int × Int × Int × Int × Int × List Int × List Int × (List (Int × Int × Bool)) × (List (Int × Int)) × (List (List (Int × Int))) × (List (Int × Int × Int × Int × Bool)) × Int × Int × Int × Int) : evCut Try.prog E (oracle k17_0) Try.f17.ntmps (fun x => mem x [4]) (L17_0 n) (finA Try.prog E Try.f17.results.toList [] w17_0.alts) 4000 (todoAt (Try.f17.body.getD .skip) 4) (cutSt s17_0_4 (c17_0_4.enc v)) = B17_0_4 (K17_0 n) v := by kernel_rfl
theorem ok17_0 : FnOk Try.prog E 17 v17_0.enc F17_0 w17_0.enc :=
  fn_known (fn := Try.f17) (c := (Try.f17.body.getD .skip)) Try.func17 (by kernel_rfl) rfl envOk (oracle_ok k17_0) mixed v17_0 F17_0 w17_0 [] [4] 4000 L17_0 (by kernel_rfl)
    (List.forall_mem_cons.2 ⟨⟨_, s17_0_4, c17_0_4.dec, c17_0_4.enc, fun n => (K17_0 n), c17_0_4.ok, fun _ _ => rfl, fun _ => rfl, fun n v _ h => (b17_0_4 n v).trans h⟩, fun _ h => (nomatch h)⟩) (fun v _ h => ⟨fuel17_0 v, (e17_0 _ v).trans h⟩) (fun _ => by kernel_rfl) (fun _ => by kernel_rfl) (fun _ _ => by kernel_rfl)
/- chicane/chicanelaw14.at -/
abbrev A49_0 : Type := Int × Int
abbrev R49_0 : Type := Int × Int
def v49_0 : Pk G (Int × Int) := (Pk.fst (pk (Sh.cons (Sh.int .i64) (Sh.fst (Sh.cons (Sh.int .i64) Sh.nil))) Sh.hnil))
def w49_0 : Wk G (Int × Int) := (Wk.one [(.agg [.keep, .keep])] (Pk.fst (pk (Sh.fst (Sh.cons (Sh.agg (Sh.cons (Sh.int .i64) (Sh.fst (Sh.cons (Sh.int .i64) Sh.nil)))) Sh.nil)) Sh.hnil)))
def F49_0 (v : Int × Int) : Option (Int × Int) :=
  let x1645 : Int := (IntKind.wrap .i64 (v.1 * (4294967296 : Int)))
  let x1646 : Int := (IntKind.wrap .i64 (v.2 * (4294967296 : Int)))
  some (x1645, x1646)

noncomputable def k49_0 : List (Known Try.prog E) := []
noncomputable def L49_0 (n id : Nat) (st : St G) : Option (Int × Int) := none
set_option maxRecDepth 100000 in
theorem e49_0 (n : Nat) (v : Int × Int) : ev Try.prog E (oracle k49_0) Try.f49.ntmps (fun x => mem x []) (L49_0 n) (finA Try.prog E Try.f49.results.toList [] w49_0.alts) 4000 [.code (Try.f49.body.getD .skip)] (argSt (v49_0.enc v)) = F49_0 v := by kernel_rfl
theorem ok49_0 : FnOk Try.prog E 49 v49_0.enc F49_0 w49_0.enc :=
  fn_known (fn := Try.f49) (c := (Try.f49.body.getD .skip)) Try.func49 (by kernel_rfl) rfl envOk (oracle_ok k49_0) mixed v49_0 F49_0 w49_0 [] [] 4000 L49_0 (by kernel_rfl)
    (fun _ h => nomatch h) (fun v _ h => ⟨0, (e49_0 _ v).trans h⟩) (fun _ => by kernel_rfl) (fun _ => by kernel_rfl) (fun _ _ => by kernel_rfl)
/- chicane/chicanelaw14.Sample -/
abbrev A29_0 : Type := Unit
abbrev R29_0 : Type := (Int × Int × Int × Int × Int × Int × Int × Int × Int × Int) × (List (Int × Int × Int × Int × Bool)) × (List (List (Int × Int))) × (List (Int × Int)) × (List (Int × Int × Bool)) × List Int × List Int
def v29_0 : Pk G Unit := (Pk.snd (pk Sh.nil Sh.hnil))
def w29_0 : Wk G ((Int × Int × Int × Int × Int × Int × Int × Int × Int × Int) × (List (Int × Int × Int × Int × Bool)) × (List (List (Int × Int))) × (List (Int × Int)) × (List (Int × Int × Bool)) × List Int × List Int) := (Wk.one [(.agg [.keep, .keep, .keep, .keep, .keep, .keep, (.own 0 23), (.own 1 3), (.own 2 110), (.own 3 25), (.own 4 43), (.own 5 40), .keep, .keep, .keep, .keep])] (pk (Sh.fst (Sh.cons (Sh.agg (Sh.cons (Sh.int .i64) (Sh.cons (Sh.int .i64) (Sh.cons (Sh.int .i64) (Sh.cons (Sh.int .i64) (Sh.cons (Sh.int .i64) (Sh.cons (Sh.int .i64) (Sh.snd (Sh.cons (Sh.osl 0) (Sh.snd (Sh.cons (Sh.osl 1) (Sh.snd (Sh.cons (Sh.osl 2) (Sh.snd (Sh.cons (Sh.osl 3) (Sh.snd (Sh.cons (Sh.osl 4) (Sh.snd (Sh.cons (Sh.osl 5) (Sh.cons (Sh.int .i64) (Sh.cons (Sh.int .i64) (Sh.cons (Sh.int .u32) (Sh.fst (Sh.cons (Sh.int .i64) Sh.nil)))))))))))))))))))))))) Sh.nil)) (Sh.hrow 5 40 (Sh.hrow 4 43 (Sh.hrow 3 25 (Sh.hrow 2 110 (Sh.hrow 1 3 (Sh.fst (Sh.hrow 0 23 Sh.hnil)))))))))
def c29_0_3 : Pk G (Int × (Int × Int × Int × Int × Int × Int × Int × Int × Int × Int) × (List (Int × Int × Int × Int × Bool)) × (List (List (Int × Int))) × (List (Int × Int)) × (List (Int × Int × Bool)) × List Int × List Int × (Int × Int × Int × Int × Int × Int × Int × Int × Int × Int) × (List (Int × Int × Int × Int × Bool)) × (List (List (Int × Int))) × (List (Int × Int)) × (List (Int × Int × Bool)) × List Int × List Int) := (pk (Sh.snd (Sh.cons (Sh.ptr 0 0) (Sh.snd (Sh.cons (Sh.ptr 7 0) (Sh.fst (Sh.cons (Sh.int .i64) Sh.nil)))))) (Sh.hfix 7 53 (Sh.cons (Sh.int .i64) (Sh.cons (Sh.int .i64) (Sh.cons (Sh.int .i64) (Sh.cons (Sh.int .i64) (Sh.cons (Sh.int .i64) (Sh.cons (Sh.int .i64) (Sh.snd (Sh.cons (Sh.osl 8) (Sh.snd (Sh.cons (Sh.osl 9) (Sh.snd (Sh.cons (Sh.osl 10) (Sh.snd (Sh.cons (Sh.osl 11) (Sh.snd (Sh.cons (Sh.osl 12) (Sh.snd (Sh.cons (Sh.osl 13) (Sh.cons (Sh.int .i64) (Sh.cons (Sh.int .i64) (Sh.cons (Sh.int .u32) (Sh.fst (Sh.cons (Sh.int .i64) Sh.nil))))))))))))))))))))))) (Sh.hrow 13 40 (Sh.hrow 12 43 (Sh.hrow 11 25 (Sh.hrow 10 110 (Sh.hrow 9 3 (Sh.hrow 8 23 (Sh.hfix 0 53 (Sh.cons (Sh.int .i64) (Sh.cons (Sh.int .i64) (Sh.cons (Sh.int .i64) (Sh.cons (Sh.int .i64) (Sh.cons (Sh.int .i64) (Sh.cons (Sh.int .i64) (Sh.snd (Sh.cons (Sh.osl 1) (Sh.snd (Sh.cons (Sh.osl 2) (Sh.snd (Sh.cons (Sh.osl 3) (Sh.snd (Sh.cons (Sh.osl 4) (Sh.snd (Sh.cons (Sh.osl 5) (Sh.snd (Sh.cons (Sh.osl 6) (Sh.cons (Sh.int .i64) (Sh.cons (Sh.int .i64) (Sh.cons (Sh.int .u32) (Sh.fst (Sh.cons (Sh.int .i64) Sh.nil))))))))))))))))))))))) (Sh.hrow 6 40 (Sh.hrow 5 43 (Sh.hrow 4 25 (Sh.hrow 3 110 (Sh.hrow 2 3 (Sh.fst (Sh.hrow 1 23 Sh.hnil))))))))))))))))
def c29_0_7 : Pk G (Int × (Int × Int × Int × Int × Int × Int × Int × Int × Int × Int) × (List (Int × Int × Int × Int × Bool)) × (List (List (Int × Int))) × (List (Int × Int)) × (List (Int × Int × Bool)) × List Int × List Int × (Int × Int × Int × Int × Int × Int × Int × Int × Int × Int) × (List (Int × Int × Int × Int × Bool)) × (List (List (Int × Int))) × (List (Int × Int)) × (List (Int × Int × Bool)) × List Int × List Int) := (pk (Sh.snd (Sh.cons (Sh.ptr 0 0) (Sh.snd (Sh.cons (Sh.ptr 7 0) (Sh.fst (Sh.cons (Sh.int .i64) Sh.nil)))))) (Sh.hfix 7 53 (Sh.cons (Sh.int .i64) (Sh.cons (Sh.int .i64) (Sh.cons (Sh.int .i64) (Sh.cons (Sh.int .i64) (Sh.cons (Sh.int .i64) (Sh.cons (Sh.int .i64) (Sh.snd (Sh.cons (Sh.osl 8) (Sh.snd (Sh.cons (Sh.osl 9) (Sh.snd (Sh.cons (Sh.osl 10) (Sh.snd (Sh.cons (Sh.osl 11) (Sh.snd (Sh.cons (Sh.osl 12) (Sh.snd (Sh.cons (Sh.osl 13) (Sh.cons (Sh.int .i64) (Sh.cons (Sh.int .i64) (Sh.cons (Sh.int .u32) (Sh.fst (Sh.cons (Sh.int .i64) Sh.nil))))))))))))))))))))))) (Sh.hrow 13 40 (Sh.hrow 12 43 (Sh.hrow 11 25 (Sh.hrow 10 110 (Sh.hrow 9 3 (Sh.hrow 8 23 (Sh.hfix 0 53 (Sh.cons (Sh.int .i64) (Sh.cons (Sh.int .i64) (Sh.cons (Sh.int .i64) (Sh.cons (Sh.int .i64) (Sh.cons (Sh.int .i64) (Sh.cons (Sh.int .i64) (Sh.snd (Sh.cons (Sh.osl 1) (Sh.snd (Sh.cons (Sh.osl 2) (Sh.snd (Sh.cons (Sh.osl 3) (Sh.snd (Sh.cons (Sh.osl 4) (Sh.snd (Sh.cons (Sh.osl 5) (Sh.snd (Sh.cons (Sh.osl 6) (Sh.cons (Sh.int .i64) (Sh.cons (Sh.int .i64) (Sh.cons (Sh.int .u32) (Sh.fst (Sh.cons (Sh.int .i64) Sh.nil))))))))))))))))))))))) (Sh.hrow 6 40 (Sh.hrow 5 43 (Sh.hrow 4 25 (Sh.hrow 3 110 (Sh.hrow 2 3 (Sh.fst (Sh.hrow 1 23 Sh.hnil))))))))))))))))
def B29_0_3 (K : ((Int × (Int × Int × Int × Int × Int × Int × Int × Int × Int × Int) × (List (Int × Int × Int × Int × Bool)) × (List (List (Int × Int))) × (List (Int × Int)) × (List (Int × Int × Bool)) × List Int × List Int × (Int × Int × Int × Int × Int × Int × Int × Int × Int × Int) × (List (Int × Int × Int × Int × Bool)) × (List (List (Int × Int))) × (List (Int × Int)) × (List (Int × Int × Bool)) × List Int × List Int) → Option ((Int × Int × Int × Int × Int × Int × Int × Int × Int × Int) × (List (Int × Int × Int × Int × Bool)) × (List (List (Int × Int))) × (List (Int × Int)) × (List (Int × Int × Bool)) × List Int × List Int)) × ((Int × (Int × Int × Int × Int × Int × Int × Int × Int × Int × Int) × (List (Int × Int × Int × Int × Bool)) × (List (List (Int × Int))) × (List (Int × Int)) × (List (Int × Int × Bool)) × List Int × List Int × (Int × Int × Int × Int × Int × Int × Int × Int × Int × Int) × (List (Int × Int × Int × Int × Bool)) × (List (List (Int × Int))) × (List (Int × Int)) × (List (Int × Int × Bool)) × List Int × List Int) → Option ((Int × Int × Int × Int × Int × Int × Int × Int × Int × Int) × (List (Int × Int × Int × Int × Bool)) × (List (List (Int × Int))) × (List (Int × Int)) × (List (Int × Int × Bool)) × List Int × List Int))) (v : Int × (Int × Int × Int × Int × Int × Int × Int × Int × Int × Int) × (List (Int × Int × Int × Int × Bool)) × (List (List (Int × Int))) × (List (Int × Int)) × (List (Int × Int × Bool)) × List Int × List Int × (Int × Int × Int × Int × Int × Int × Int × Int × Int × Int) × (List (Int × Int × Int × Int × Bool)) × (List (List (Int × Int))) × (List (Int × Int)) × (List (Int × Int × Bool)) × List Int × List Int) : Option ((Int × Int × Int × Int × Int × Int × Int × Int × Int × Int) × (List (Int × Int × Int × Int × Bool)) × (List (List (Int × Int))) × (List (Int × Int)) × (List (Int × Int × Bool)) × List Int × List Int) :=
  bif (decide (v.1 < (25 : Int))) then
    (chk (decide (((v.2.2.2.2.2.2.2.1).length + (([(0 : Int)] : List Int)).length) * 8 ≤ 140737488355328))).bind fun _ =>
    let x1788 : List Int := (v.2.2.2.2.2.2.2.1 ++ ([(0 : Int)] : List Int))
    let x1789 : Int := (IntKind.wrap .i64 (v.1 + (1 : Int)))
    K.1 (x1789, (v.2.1, (v.2.2.1, (v.2.2.2.1, (v.2.2.2.2.1, (v.2.2.2.2.2.1, (v.2.2.2.2.2.2.1, (x1788, v.2.2.2.2.2.2.2.2))))))))
  else
    K.2 ((0 : Int), v.2)

def B29_0_7 (K : ((Int × (Int × Int × Int × Int × Int × Int × Int × Int × Int × Int) × (List (Int × Int × Int × Int × Bool)) × (List (List (Int × Int))) × (List (Int × Int)) × (List (Int × Int × Bool)) × List Int × List Int × (Int × Int × Int × Int × Int × Int × Int × Int × Int × Int) × (List (Int × Int × Int × Int × Bool)) × (List (List (Int × Int))) × (List (Int × Int)) × (List (Int × Int × Bool)) × List Int × List Int) → Option ((Int × Int × Int × Int × Int × Int × Int × Int × Int × Int) × (List (Int × Int × Int × Int × Bool)) × (List (List (Int × Int))) × (List (Int × Int)) × (List (Int × Int × Bool)) × List Int × List Int)) × ((Int × (Int × Int × Int × Int × Int × Int × Int × Int × Int × Int) × (List (Int × Int × Int × Int × Bool)) × (List (List (Int × Int))) × (List (Int × Int)) × (List (Int × Int × Bool)) × List Int × List Int × (Int × Int × Int × Int × Int × Int × Int × Int × Int × Int) × (List (Int × Int × Int × Int × Bool)) × (List (List (Int × Int))) × (List (Int × Int)) × (List (Int × Int × Bool)) × List Int × List Int) → Option ((Int × Int × Int × Int × Int × Int × Int × Int × Int × Int) × (List (Int × Int × Int × Int × Bool)) × (List (List (Int × Int))) × (List (Int × Int)) × (List (Int × Int × Bool)) × List Int × List Int))) (v : Int × (Int × Int × Int × Int × Int × Int × Int × Int × Int × Int) × (List (Int × Int × Int × Int × Bool)) × (List (List (Int × Int))) × (List (Int × Int)) × (List (Int × Int × Bool)) × List Int × List Int × (Int × Int × Int × Int × Int × Int × Int × Int × Int × Int) × (List (Int × Int × Int × Int × Bool)) × (List (List (Int × Int))) × (List (Int × Int)) × (List (Int × Int × Bool)) × List Int × List Int) : Option ((Int × Int × Int × Int × Int × Int × Int × Int × Int × Int) × (List (Int × Int × Int × Int × Bool)) × (List (List (Int × Int))) × (List (Int × Int)) × (List (Int × Int × Bool)) × List Int × List Int) :=
  bif (decide (v.1 < (16 : Int))) then
    bif (v.1 == (5 : Int)) then
      (chk (decide (((v.2.2.2.2.2.2.1).length + (([(1 : Int)] : List Int)).length) * 8 ≤ 140737488355328))).bind fun _ =>
      let x1790 : List Int := (v.2.2.2.2.2.2.1 ++ ([(1 : Int)] : List Int))
      let x1791 : Int := (IntKind.wrap .i64 (v.1 + (1 : Int)))
      K.2 (x1791, (v.2.1, (v.2.2.1, (v.2.2.2.1, (v.2.2.2.2.1, (v.2.2.2.2.2.1, (x1790, v.2.2.2.2.2.2.2)))))))
    else
      bif (v.1 == (6 : Int)) then
        (chk (decide (((v.2.2.2.2.2.2.1).length + (([(1 : Int)] : List Int)).length) * 8 ≤ 140737488355328))).bind fun _ =>
        let x1792 : List Int := (v.2.2.2.2.2.2.1 ++ ([(1 : Int)] : List Int))
        let x1793 : Int := (IntKind.wrap .i64 (v.1 + (1 : Int)))
        K.2 (x1793, (v.2.1, (v.2.2.1, (v.2.2.2.1, (v.2.2.2.2.1, (v.2.2.2.2.2.1, (x1792, v.2.2.2.2.2.2.2)))))))
      else
        bif (v.1 == (9 : Int)) then
          (chk (decide (((v.2.2.2.2.2.2.1).length + (([(1 : Int)] : List Int)).length) * 8 ≤ 140737488355328))).bind fun _ =>
          let x1794 : List Int := (v.2.2.2.2.2.2.1 ++ ([(1 : Int)] : List Int))
          let x1795 : Int := (IntKind.wrap .i64 (v.1 + (1 : Int)))
          K.2 (x1795, (v.2.1, (v.2.2.1, (v.2.2.2.1, (v.2.2.2.2.1, (v.2.2.2.2.2.1, (x1794, v.2.2.2.2.2.2.2)))))))
        else
          bif (v.1 == (10 : Int)) then
            (chk (decide (((v.2.2.2.2.2.2.1).length + (([(1 : Int)] : List Int)).length) * 8 ≤ 140737488355328))).bind fun _ =>
            let x1796 : List Int := (v.2.2.2.2.2.2.1 ++ ([(1 : Int)] : List Int))
            let x1797 : Int := (IntKind.wrap .i64 (v.1 + (1 : Int)))
            K.2 (x1797, (v.2.1, (v.2.2.1, (v.2.2.2.1, (v.2.2.2.2.1, (v.2.2.2.2.2.1, (x1796, v.2.2.2.2.2.2.2)))))))
          else
            (chk (decide (((v.2.2.2.2.2.2.1).length + (([(0 : Int)] : List Int)).length) * 8 ≤ 140737488355328))).bind fun _ =>
            let x1798 : List Int := (v.2.2.2.2.2.2.1 ++ ([(0 : Int)] : List Int))
            let x1799 : Int := (IntKind.wrap .i64 (v.1 + (1 : Int)))
            K.2 (x1799, (v.2.1, (v.2.2.1, (v.2.2.2.1, (v.2.2.2.2.1, (v.2.2.2.2.2.1, (x1798, v.2.2.2.2.2.2.2)))))))
  else
    (F49_0 ((10 : Int), (10 : Int))).bind fun r1800 =>
    (F49_0 ((54 : Int), (10 : Int))).bind fun r1801 =>
    (F49_0 ((54 : Int), (54 : Int))).bind fun r1802 =>
    (F49_0 ((10 : Int), (54 : Int))).bind fun r1803 =>
    (F49_0 ((2 : Int), (2 : Int))).bind fun r1804 =>
    (F49_0 ((62 : Int), (2 : Int))).bind fun r1805 =>
    (F49_0 ((62 : Int), (62 : Int))).bind fun r1806 =>
    (F49_0 ((2 : Int), (62 : Int))).bind fun r1807 =>
    (F49_0 ((2 : Int), (2 : Int))).bind fun r1808 =>
    (F49_0 ((24 : Int), (24 : Int))).bind fun r1809 =>
    (F49_0 ((24 : Int), (40 : Int))).bind fun r1810 =>
    (F49_0 ((40 : Int), (40 : Int))).bind fun r1811 =>
    (F49_0 ((40 : Int), (24 : Int))).bind fun r1812 =>
    (F49_0 ((24 : Int), (24 : Int))).bind fun r1813 =>
    (F49_0 ((36 : Int), (24 : Int))).bind fun r1814 =>
    (F49_0 ((36 : Int), (2 : Int))).bind fun r1815 =>
    (F49_0 ((40 : Int), (36 : Int))).bind fun r1816 =>
    (F49_0 ((62 : Int), (36 : Int))).bind fun r1817 =>
    (F49_0 ((28 : Int), (40 : Int))).bind fun r1818 =>
    (F49_0 ((28 : Int), (62 : Int))).bind fun r1819 =>
    some (v.2.1, (([(r1814.1, (r1814.2, (r1815.1, (r1815.2, false)))), (r1816.1, (r1816.2, (r1817.1, (r1817.2, true)))), (r1818.1, (r1818.2, (r1819.1, (r1819.2, false))))] : List (Int × Int × Int × Int × Bool)), (([([r1804, r1805, r1806, r1807, r1808] : List (Int × Int)), ([r1809, r1810, r1811, r1812, r1813] : List (Int × Int))] : List (List (Int × Int))), (([r1800, r1801, r1802, r1803] : List (Int × Int)), (v.2.2.2.2.2.1, (v.2.2.2.2.2.2.1, v.2.2.2.2.2.2.2.1))))))

def E29_0 (K : ((Int × (Int × Int × Int × Int × Int × Int × Int × Int × Int × Int) × (List (Int × Int × Int × Int × Bool)) × (List (List (Int × Int))) × (List (Int × Int)) × (List (Int × Int × Bool)) × List Int × List Int × (Int × Int × Int × Int × Int × Int × Int × Int × Int × Int) × (List (Int × Int × Int × Int × Bool)) × (List (List (Int × Int))) × (List (Int × Int)) × (List (Int × Int × Bool)) × List Int × List Int) → Option ((Int × Int × Int × Int × Int × Int × Int × Int × Int × Int) × (List (Int × Int × Int × Int × Bool)) × (List (List (Int × Int))) × (List (Int × Int)) × (List (Int × Int × Bool)) × List Int × List Int)) × ((Int × (Int × Int × Int × Int × Int × Int × Int × Int × Int × Int) × (List (Int × Int × Int × Int × Bool)) × (List (List (Int × Int))) × (List (Int × Int)) × (List (Int × Int × Bool)) × List Int × List Int × (Int × Int × Int × Int × Int × Int × Int × Int × Int × Int) × (List (Int × Int × Int × Int × Bool)) × (List (List (Int × Int))) × (List (Int × Int)) × (List (Int × Int × Bool)) × List Int × List Int) → Option ((Int × Int × Int × Int × Int × Int × Int × Int × Int × Int) × (List (Int × Int × Int × Int × Bool)) × (List (List (Int × Int))) × (List (Int × Int)) × (List (Int × Int × Bool)) × List Int × List Int))) (v : Unit) : Option ((Int × Int × Int × Int × Int × Int × Int × Int × Int × Int) × (List (Int × Int × Int × Int × Bool)) × (List (List (Int × Int))) × (List (Int × Int)) × (List (Int × Int × Bool)) × List Int × List Int) :=
  (F49_0 ((32 : Int), (10 : Int))).bind fun r1787 =>
  K.1 ((0 : Int), (((64 : Int), ((68719476736 : Int), ((4 : Int), ((4 : Int), ((0 : Int), ((0 : Int), (r1787.1, (r1787.2, ((0 : Int), (2 : Int)))))))))), (([] : List (Int × Int × Int × Int × Bool)), (([] : List (List (Int × Int))), (([] : List (Int × Int)), (([((4294967296 : Int), ((67108864 : Int), false)), ((2147483648 : Int), ((536870912 : Int), true))] : List (Int × Int × Bool)), (([] : List Int), (([] : List Int), (((0 : Int), ((0 : Int), ((0 : Int), ((0 : Int), ((0 : Int), ((0 : Int), ((0 : Int), ((0 : Int), ((0 : Int), (0 : Int)))))))))), (([] : List (Int × Int × Int × Int × Bool)), (([] : List (List (Int × Int))), (([] : List (Int × Int)), (([] : List (Int × Int × Bool)), (([] : List Int), ([] : List Int)))))))))))))))

def K29_0 : Nat → ((Int × (Int × Int × Int × Int × Int × Int × Int × Int × Int × Int) × (List (Int × Int × Int × Int × Bool)) × (List (List (Int × Int))) × (List (Int × Int)) × (List (Int × Int × Bool)) × List Int × List Int × (Int × Int × Int × Int × Int × Int × Int × Int × Int × Int) × (List (Int × Int × Int × Int × Bool)) × (List (List (Int × Int))) × (List (Int × Int)) × (List (Int × Int × Bool)) × List Int × List Int) → Option ((Int × Int × Int × Int × Int × Int × Int × Int × Int × Int) × (List (Int × Int × Int × Int × Bool)) × (List (List (Int × Int))) × (List (Int × Int)) × (List (Int × Int × Bool)) × List Int × List Int)) × ((Int × (Int × Int × Int × Int × Int × Int × Int × Int × Int × Int) × (List (Int × Int × Int × Int × Bool)) × (List (List (Int × Int))) × (List (Int × Int)) × (List (Int × Int × Bool)) × List Int × List Int × (Int × Int × Int × Int × Int × Int × Int × Int × Int × Int) × (List (Int × Int × Int × Int × Bool)) × (List (List (Int × Int))) × (List (Int × Int)) × (List (Int × Int × Bool)) × List Int × List Int) → Option ((Int × Int × Int × Int × Int × Int × Int × Int × Int × Int) × (List (Int × Int × Int × Int × Bool)) × (List (List (Int × Int))) × (List (Int × Int)) × (List (Int × Int × Bool)) × List Int × List Int))
  | 0 => (fun _ => none, fun _ => none)
  | n + 1 => (B29_0_3 (K29_0 n), B29_0_7 (K29_0 n))
def fuel29_0 (v : Unit) : Nat := 1000
def F29_0 (v : Unit) : Option ((Int × Int × Int × Int × Int × Int × Int × Int × Int × Int) × (List (Int × Int × Int × Int × Bool)) × (List (List (Int × Int))) × (List (Int × Int)) × (List (Int × Int × Bool)) × List Int × List Int) := E29_0 (K29_0 (fuel29_0 v)) v
noncomputable def k29_0 : List (Known Try.prog E) := [Known.of envOk [1, 1] [.keep, .keep] v49_0 F49_0 w49_0 ok49_0]
def s29_0_7 : List (Nat × Pat) := [(0, (.ptr 0 0 53 [.keep, .keep, .keep, .keep, .keep, .keep, (.own 1 23), (.own 2 3), (.own 3 110), (.own 4 25), (.own 5 43), (.own 6 40), .keep, .keep, .keep, .keep])), (1, (.ptr 7 0 53 [.keep, .keep, .keep, .keep, .keep, .keep, (.own 8 23), (.own 9 3), (.own 10 110), (.own 11 25), (.own 12 43), (.own 13 40), .keep, .keep, .keep, .keep])), (3, .keep)]
def s29_0_3 : List (Nat × Pat) := [(0, (.ptr 0 0 53 [.keep, .keep, .keep, .keep, .keep, .keep, (.own 1 23), (.own 2 3), (.own 3 110), (.own 4 25), (.own 5 43), (.own 6 40), .keep, .keep, .keep, .keep])), (1, (.ptr 7 0 53 [.keep, .keep, .keep, .keep, .keep, .keep, (.own 8 23), (.own 9 3), (.own 10 110), (.own 11 25), (.own 12 43), (.own 13 40), .keep, .keep, .keep, .keep])), (2, .keep)]
noncomputable def L29_0 (n id : Nat) (st : St G) : Option ((Int × Int × Int × Int × Int × Int × Int × Int × Int × Int) × (List (Int × Int × Int × Int × Bool)) × (List (List (Int × Int))) × (List (Int × Int)) × (List (Int × Int × Bool)) × List Int × List Int) := match Nat.beq id 3 with | true => cutK Try.prog s29_0_3 [] c29_0_3.dec (K29_0 n).1 st | false => match Nat.beq id 7 with | true => cutK Try.prog s29_0_7 [] c29_0_7.dec (K29_0 n).2 st | false => none
set_option maxRecDepth 100000 in
theorem e29_0 (n : Nat) (v : Unit) : ev Try.prog E (oracle k29_0) Try.f29.ntmps (fun x => mem x [3, 7]) (L29_0 n) (finA Try.prog E Try.f29.results.toList [] w29_0.alts) 4000 [.code (Try.f29.body.getD .skip)] (argSt (v29_0.enc v)) = E29_0 (K29_0 n) v := by kernel_rfl
set_option maxRecDepth 100000 in
theorem b29_0_3 (n : Nat) (v : Int × (Int × Int × Int × Int × Int × Int × Int × Int × Int × Int) × (List (Int × Int × Int × Int × Bool)) × (List (List (Int × Int))) × (List (Int × Int)) × (List (Int × Int × Bool)) × List Int × List Int × (Int × Int × Int × Int × Int × Int × Int × Int × Int × Int) × (List (Int × Int × Int × Int × Bool)) × (List (List (Int × Int))) × (List (Int × Int)) × (List (Int × Int × Bool)) × List Int × List Int) : evCut Try.prog E (oracle k29_0) Try.f29.ntmps (fun x => mem x [3, 7]) (L29_0 n) (finA Try.prog E Try.f29.results.toList [] w29_0.alts) 4000 (todoAt (Try.f29.body.getD .skip) 3) (cutSt s29_0_3 (c29_0_3.enc v)) = B29_0_3 (K29_0 n) v := by kernel_rfl
set_option maxRecDepth 100000 in
theorem b29_0_7 (n : Nat) (v : Int × (Int × Int × Int × Int × Int × Int × Int × Int × Int × Int) × (List (Int × Int × Int × Int × Bool)) × (List (List (Int × Int))) × (List (Int × Int)) × (List (Int × Int × Bool)) × List Int × List Int × (Int × Int × Int × Int × Int × Int × Int × Int × Int × Int) × (List (Int × Int × Int × Int × Bool)) × (List (List (Int × Int))) × (List (Int × Int)) × (List (Int × Int × Bool)) × List Int × List Int) : evCut Try.prog E (oracle k29_0) Try.f29.ntmps (fun x => mem x [3, 7]) (L29_0 n) (finA Try.prog E Try.f29.results.toList [] w29_0.alts) 4000 (todoAt (Try.f29.body.getD .skip) 7) (cutSt s29_0_7 (c29_0_7.enc v)) = B29_0_7 (K29_0 n) v := by kernel_rfl
theorem ok29_0 : FnOk Try.prog E 29 v29_0.enc F29_0 w29_0.enc :=
  fn_known (fn := Try.f29) (c := (Try.f29.body.getD .skip)) Try.func29 (by kernel_rfl) rfl envOk (oracle_ok k29_0) mixed v29_0 F29_0 w29_0 [] [3, 7] 4000 L29_0 (by kernel_rfl)
    (List.forall_mem_cons.2 ⟨⟨_, s29_0_3, c29_0_3.dec, c29_0_3.enc, fun n => (K29_0 n).1, c29_0_3.ok, fun _ _ => rfl, fun _ => rfl, fun n v _ h => (b29_0_3 n v).trans h⟩, List.forall_mem_cons.2 ⟨⟨_, s29_0_7, c29_0_7.dec, c29_0_7.enc, fun n => (K29_0 n).2, c29_0_7.ok, fun _ _ => rfl, fun _ => rfl, fun n v _ h => (b29_0_7 n v).trans h⟩, fun _ h => (nomatch h)⟩⟩) (fun v _ h => ⟨fuel29_0 v, (e29_0 _ v).trans h⟩) (fun _ => by kernel_rfl) (fun _ => by kernel_rfl) (fun _ _ => by kernel_rfl)
/- chicane/chicanelaw31.at -/
abbrev A30_0 : Type := Int × Int
abbrev R30_0 : Type := Int × Int
def v30_0 : Pk G (Int × Int) := (Pk.fst (pk (Sh.cons (Sh.int .i64) (Sh.fst (Sh.cons (Sh.int .i64) Sh.nil))) Sh.hnil))
def w30_0 : Wk G (Int × Int) := (Wk.one [(.agg [.keep, .keep])] (Pk.fst (pk (Sh.fst (Sh.cons (Sh.agg (Sh.cons (Sh.int .i64) (Sh.fst (Sh.cons (Sh.int .i64) Sh.nil)))) Sh.nil)) Sh.hnil)))
def F30_0 (v : Int × Int) : Option (Int × Int) :=
  let x1825 : Int := (IntKind.wrap .i64 (v.1 * (4294967296 : Int)))
  let x1826 : Int := (IntKind.wrap .i64 (v.2 * (4294967296 : Int)))
  some (x1825, x1826)

noncomputable def k30_0 : List (Known Try.prog E) := []
noncomputable def L30_0 (n id : Nat) (st : St G) : Option (Int × Int) := none
set_option maxRecDepth 100000 in
theorem e30_0 (n : Nat) (v : Int × Int) : ev Try.prog E (oracle k30_0) Try.f30.ntmps (fun x => mem x []) (L30_0 n) (finA Try.prog E Try.f30.results.toList [] w30_0.alts) 4000 [.code (Try.f30.body.getD .skip)] (argSt (v30_0.enc v)) = F30_0 v := by kernel_rfl
theorem ok30_0 : FnOk Try.prog E 30 v30_0.enc F30_0 w30_0.enc :=
  fn_known (fn := Try.f30) (c := (Try.f30.body.getD .skip)) Try.func30 (by kernel_rfl) rfl envOk (oracle_ok k30_0) mixed v30_0 F30_0 w30_0 [] [] 4000 L30_0 (by kernel_rfl)
    (fun _ h => nomatch h) (fun v _ h => ⟨0, (e30_0 _ v).trans h⟩) (fun _ => by kernel_rfl) (fun _ => by kernel_rfl) (fun _ _ => by kernel_rfl)
/- chicane/clock.Tick$1 -/
abbrev A31_0 : Type := (Int × Int × Int × Int) × List (Int × Int × Int × Int)
abbrev R31_0 : Type := List (Int × Int × Int × Int)
def v31_0 : Pk G ((Int × Int × Int × Int) × List (Int × Int × Int × Int)) := (pk (Sh.cons (Sh.int .i64) (Sh.cons (Sh.int .i64) (Sh.cons (Sh.int .i64) (Sh.fst (Sh.cons (Sh.int .i64) (Sh.snd (Sh.cons (Sh.ptr 0 0) Sh.nil))))))) (Sh.snd (Sh.hfix 0 62 (Sh.snd (Sh.cons (Sh.osl 1) Sh.nil)) (Sh.fst (Sh.hrow 1 68 Sh.hnil)))))
def w31_0 : Wk G (List (Int × Int × Int × Int)) := (Wk.one [] (Pk.snd (pk Sh.nil (Sh.snd (Sh.hfix 0 62 (Sh.snd (Sh.cons (Sh.osl 2) Sh.nil)) (Sh.fst (Sh.hrow 2 68 Sh.hnil)))))))
def F31_0 (v : (Int × Int × Int × Int) × List (Int × Int × Int × Int)) : Option (List (Int × Int × Int × Int)) :=
  (chk (decide (((v.2).length + (([v.1] : List (Int × Int × Int × Int))).length) * 32 ≤ 140737488355328))).bind fun _ =>
  let x1838 : List (Int × Int × Int × Int) := (v.2 ++ ([v.1] : List (Int × Int × Int × Int)))
  some (x1838)

noncomputable def k31_0 : List (Known Try.prog E) := []
noncomputable def L31_0 (n id : Nat) (st : St G) : Option (List (Int × Int × Int × Int)) := none
set_option maxRecDepth 100000 in
theorem e31_0 (n : Nat) (v : (Int × Int × Int × Int) × List (Int × Int × Int × Int)) : ev Try.prog E (oracle k31_0) Try.f31.ntmps (fun x => mem x []) (L31_0 n) (finA Try.prog E Try.f31.results.toList [(.ptr 0 0 62 [(.own 2 68)])] w31_0.alts) 4000 [.code (Try.f31.body.getD .skip)] (argSt (v31_0.enc v)) = F31_0 v := by kernel_rfl
theorem ok31_0 : FnOk Try.prog E 31 v31_0.enc F31_0 w31_0.enc :=
  fn_known (fn := Try.f31) (c := (Try.f31.body.getD .skip)) Try.func31 (by kernel_rfl) rfl envOk (oracle_ok k31_0) mixed v31_0 F31_0 w31_0 [(.ptr 0 0 62 [(.own 2 68)])] [] 4000 L31_0 (by kernel_rfl)
    (fun _ h => nomatch h) (fun v _ h => ⟨0, (e31_0 _ v).trans h⟩) (fun _ => by kernel_rfl) (fun _ => by kernel_rfl) (fun _ _ => by kernel_rfl)
/- (*chicane/clock.race).spoil -/
abbrev A50_0 : Type := (Int × Int) × (Int × Int × Int × Int × Int × Int × List Int × List Int × (List (Int × Int × Bool)) × (List (Int × Int)) × (List (List (Int × Int))) × (List (Int × Int × Int × Int × Bool)) × Int × Int × Int × Int × Int × Int × Bool × Bool × Int × Int × Int × Int × Int × Bool) × List (Int × Int × Int × Int)
abbrev R50_0 : Type := (Int × Int × Int × Int × Int × Int × List Int × List Int × (List (Int × Int × Bool)) × (List (Int × Int)) × (List (List (Int × Int))) × (List (Int × Int × Int × Int × Bool)) × Int × Int × Int × Int × Int × Int × Bool × Bool × Int × Int × Int × Int × Int × Bool) × List (Int × Int × Int × Int)
def v50_0 : Pk G ((Int × Int) × (Int × Int × Int × Int × Int × Int × List Int × List Int × (List (Int × Int × Bool)) × (List (Int × Int)) × (List (List (Int × Int))) × (List (Int × Int × Int × Int × Bool)) × Int × Int × Int × Int × Int × Int × Bool × Bool × Int × Int × Int × Int × Int × Bool) × List (Int × Int × Int × Int)) := (pk (Sh.snd (Sh.cons (Sh.ptr 0 0) (Sh.cons (Sh.int .i64) (Sh.fst (Sh.cons (Sh.int .i64) Sh.nil))))) (Sh.hfix 0 82 (Sh.cons (Sh.int .i64) (Sh.cons (Sh.int .i64) (Sh.cons (Sh.int .i64) (Sh.cons (Sh.int .i64) (Sh.cons (Sh.int .i64) (Sh.cons (Sh.int .i64) (Sh.cons (Sh.ros 23) (Sh.cons (Sh.ros 3) (Sh.cons (Sh.ros 110) (Sh.cons (Sh.ros 25) (Sh.cons (Sh.ros 43) (Sh.cons (Sh.ros 40) (Sh.cons (Sh.int .i64) (Sh.cons (Sh.int .i64) (Sh.cons (Sh.int .u32) (Sh.cons (Sh.int .i64) (Sh.cons (Sh.int .i64) (Sh.cons (Sh.int .i64) (Sh.cons Sh.bool (Sh.cons Sh.bool (Sh.cons (Sh.int .i64) (Sh.cons (Sh.int .i64) (Sh.cons (Sh.int .i64) (Sh.cons (Sh.int .i64) (Sh.cons (Sh.int .i64) (Sh.fst (Sh.cons Sh.bool (Sh.snd (Sh.cons (Sh.snd (Sh.fn (.func 31) Sh.nil (Sh.snd (Sh.cons (Sh.ptr 1 0) Sh.nil)))) Sh.nil))))))))))))))))))))))))))))) (Sh.snd (Sh.hfix 1 62 (Sh.snd (Sh.cons (Sh.osl 2) Sh.nil)) (Sh.fst (Sh.hrow 2 68 Sh.hnil))))))
def w50_0 : Wk G ((Int × Int × Int × Int × Int × Int × List Int × List Int × (List (Int × Int × Bool)) × (List (Int × Int)) × (List (List (Int × Int))) × (List (Int × Int × Int × Int × Bool)) × Int × Int × Int × Int × Int × Int × Bool × Bool × Int × Int × Int × Int × Int × Bool) × List (Int × Int × Int × Int)) := (Wk.one [] (Pk.snd (pk Sh.nil (Sh.hfix 0 82 (Sh.cons (Sh.int .i64) (Sh.cons (Sh.int .i64) (Sh.cons (Sh.int .i64) (Sh.cons (Sh.int .i64) (Sh.cons (Sh.int .i64) (Sh.cons (Sh.int .i64) (Sh.cons (Sh.ros 23) (Sh.cons (Sh.ros 3) (Sh.cons (Sh.ros 110) (Sh.cons (Sh.ros 25) (Sh.cons (Sh.ros 43) (Sh.cons (Sh.ros 40) (Sh.cons (Sh.int .i64) (Sh.cons (Sh.int .i64) (Sh.cons (Sh.int .u32) (Sh.cons (Sh.int .i64) (Sh.cons (Sh.int .i64) (Sh.cons (Sh.int .i64) (Sh.cons Sh.bool (Sh.cons Sh.bool (Sh.cons (Sh.int .i64) (Sh.cons (Sh.int .i64) (Sh.cons (Sh.int .i64) (Sh.cons (Sh.int .i64) (Sh.cons (Sh.int .i64) (Sh.fst (Sh.cons Sh.bool (Sh.snd (Sh.cons (Sh.snd (Sh.fn (.func 31) Sh.nil (Sh.snd (Sh.cons (Sh.ptr 1 0) Sh.nil)))) Sh.nil))))))))))))))))))))))))))))) (Sh.snd (Sh.hfix 1 62 (Sh.snd (Sh.cons (Sh.osl 3) Sh.nil)) (Sh.fst (Sh.hrow 3 68 Sh.hnil))))))))
def F50_0 (v : (Int × Int) × (Int × Int × Int × Int × Int × Int × List Int × List Int × (List (Int × Int × Bool)) × (List (Int × Int)) × (List (List (Int × Int))) × (List (Int × Int × Int × Int × Bool)) × Int × Int × Int × Int × Int × Int × Bool × Bool × Int × Int × Int × Int × Int × Bool) × List (Int × Int × Int × Int)) : Option ((Int × Int × Int × Int × Int × Int × List Int × List Int × (List (Int × Int × Bool)) × (List (Int × Int)) × (List (List (Int × Int))) × (List (Int × Int × Int × Int × Bool)) × Int × Int × Int × Int × Int × Int × Bool × Bool × Int × Int × Int × Int × Int × Bool) × List (Int × Int × Int × Int)) :=
  bif v.2.1.2.2.2.2.2.2.2.2.2.2.2.2.2.2.2.2.2.2.1 then
    bif v.2.1.2.2.2.2.2.2.2.2.2.2.2.2.2.2.2.2.2.2.2.1 then
      (F31_0 (((5 : Int), (v.1.1, (v.1.2, (0 : Int)))), v.2.2)).bind fun r1842 =>
      some ((v.2.1.1, (v.2.1.2.1, (v.2.1.2.2.1, (v.2.1.2.2.2.1, (v.2.1.2.2.2.2.1, (v.2.1.2.2.2.2.2.1, (v.2.1.2.2.2.2.2.2.1, (v.2.1.2.2.2.2.2.2.2.1, (v.2.1.2.2.2.2.2.2.2.2.1, (v.2.1.2.2.2.2.2.2.2.2.2.1, (v.2.1.2.2.2.2.2.2.2.2.2.2.1, (v.2.1.2.2.2.2.2.2.2.2.2.2.2.1, (v.2.1.2.2.2.2.2.2.2.2.2.2.2.2.1, (v.2.1.2.2.2.2.2.2.2.2.2.2.2.2.2.1, (v.2.1.2.2.2.2.2.2.2.2.2.2.2.2.2.2.1, (v.2.1.2.2.2.2.2.2.2.2.2.2.2.2.2.2.2.1, (v.2.1.2.2.2.2.2.2.2.2.2.2.2.2.2.2.2.2.1, (v.2.1.2.2.2.2.2.2.2.2.2.2.2.2.2.2.2.2.2.1, (v.2.1.2.2.2.2.2.2.2.2.2.2.2.2.2.2.2.2.2.2.1, (false, v.2.1.2.2.2.2.2.2.2.2.2.2.2.2.2.2.2.2.2.2.2.2)))))))))))))))))))), r1842)
    else
      some (v.2)
  else
    some (v.2)

noncomputable def k50_0 : List (Known Try.prog E) := [Known.of envOk [1, 1, 1, 1, 5] [.keep, .keep, .keep, .keep, (.ptr 0 0 62 [(.own 1 68)])] v31_0 F31_0 w31_0 ok31_0]
noncomputable def L50_0 (n id : Nat) (st : St G) : Option ((Int × Int × Int × Int × Int × Int × List Int × List Int × (List (Int × Int × Bool)) × (List (Int × Int)) × (List (List (Int × Int))) × (List (Int × Int × Int × Int × Bool)) × Int × Int × Int × Int × Int × Int × Bool × Bool × Int × Int × Int × Int × Int × Bool) × List (Int × Int × Int × Int)) := none
set_option maxRecDepth 100000 in
theorem e50_0 (n : Nat) (v : (Int × Int) × (Int × Int × Int × Int × Int × Int × List Int × List Int × (List (Int × Int × Bool)) × (List (Int × Int)) × (List (List (Int × Int))) × (List (Int × Int × Int × Int × Bool)) × Int × Int × Int × Int × Int × Int × Bool × Bool × Int × Int × Int × Int × Int × Bool) × List (Int × Int × Int × Int)) : ev Try.prog E (oracle k50_0) Try.f50.ntmps (fun x => mem x []) (L50_0 n) (finA Try.prog E Try.f50.results.toList [(.ptr 1 0 62 [(.own 3 68)]), (.ptr 0 0 82 [.keep, .keep, .keep, .keep, .keep, .keep, (.ros 23), (.ros 3), (.ros 110), (.ros 25), (.ros 43), (.ros 40), .keep, .keep, .keep, .keep, .keep, .keep, .keep, .keep, .keep, .keep, .keep, .keep, .keep, .keep, (.fn (.func 31) [] [(.ptr 1 0 62 [])])])] w50_0.alts) 4000 [.code (Try.f50.body.getD .skip)] (argSt (v50_0.enc v)) = F50_0 v := by kernel_rfl
theorem ok50_0 : FnOk Try.prog E 50 v50_0.enc F50_0 w50_0.enc :=
  fn_known (fn := Try.f50) (c := (Try.f50.body.getD .skip)) Try.func50 (by kernel_rfl) rfl envOk (oracle_ok k50_0) mixed v50_0 F50_0 w50_0 [(.ptr 1 0 62 [(.own 3 68)]), (.ptr 0 0 82 [.keep, .keep, .keep, .keep, .keep, .keep, (.ros 23), (.ros 3), (.ros 110), (.ros 25), (.ros 43), (.ros 40), .keep, .keep, .keep, .keep, .keep, .keep, .keep, .keep, .keep, .keep, .keep, .keep, .keep, .keep, (.fn (.func 31) [] [(.ptr 1 0 62 [])])])] [] 4000 L50_0 (by kernel_rfl)
    (fun _ h => nomatch h) (fun v _ h => ⟨0, (e50_0 _ v).trans h⟩) (fun _ => by kernel_rfl) (fun _ => by kernel_rfl) (fun _ _ => by kernel_rfl)
/- (*chicane/clock.race).line -/
abbrev A51_0 : Type := Int × (Int × Int × Int × Int × Int × Int × List Int × List Int × (List (Int × Int × Bool)) × (List (Int × Int)) × (List (List (Int × Int))) × (List (Int × Int × Int × Int × Bool)) × Int × Int × Int × Int × Int × Int × Bool × Bool × Int × Int × Int × Int × Int × Bool) × List (Int × Int × Int × Int)
abbrev R51_0 : Type := (Int × Int × Int × Int × Int × Int × List Int × List Int × (List (Int × Int × Bool)) × (List (Int × Int)) × (List (List (Int × Int))) × (List (Int × Int × Int × Int × Bool)) × Int × Int × Int × Int × Int × Int × Bool × Bool × Int × Int × Int × Int × Int × Bool) × List (Int × Int × Int × Int)
def v51_0 : Pk G (Int × (Int × Int × Int × Int × Int × Int × List Int × List Int × (List (Int × Int × Bool)) × (List (Int × Int)) × (List (List (Int × Int))) × (List (Int × Int × Int × Int × Bool)) × Int × Int × Int × Int × Int × Int × Bool × Bool × Int × Int × Int × Int × Int × Bool) × List (Int × Int × Int × Int)) := (pk (Sh.snd (Sh.cons (Sh.ptr 0 0) (Sh.fst (Sh.cons (Sh.int .i64) Sh.nil)))) (Sh.hfix 0 82 (Sh.cons (Sh.int .i64) (Sh.cons (Sh.int .i64) (Sh.cons (Sh.int .i64) (Sh.cons (Sh.int .i64) (Sh.cons (Sh.int .i64) (Sh.cons (Sh.int .i64) (Sh.cons (Sh.ros 23) (Sh.cons (Sh.ros 3) (Sh.cons (Sh.ros 110) (Sh.cons (Sh.ros 25) (Sh.cons (Sh.ros 43) (Sh.cons (Sh.ros 40) (Sh.cons (Sh.int .i64) (Sh.cons (Sh.int .i64) (Sh.cons (Sh.int .u32) (Sh.cons (Sh.int .i64) (Sh.cons (Sh.int .i64) (Sh.cons (Sh.int .i64) (Sh.cons Sh.bool (Sh.cons Sh.bool (Sh.cons (Sh.int .i64) (Sh.cons (Sh.int .i64) (Sh.cons (Sh.int .i64) (Sh.cons (Sh.int .i64) (Sh.cons (Sh.int .i64) (Sh.fst (Sh.cons Sh.bool (Sh.snd (Sh.cons (Sh.snd (Sh.fn (.func 31) Sh.nil (Sh.snd (Sh.cons (Sh.ptr 1 0) Sh.nil)))) Sh.nil))))))))))))))))))))))))))))) (Sh.snd (Sh.hfix 1 62 (Sh.snd (Sh.cons (Sh.osl 2) Sh.nil)) (Sh.fst (Sh.hrow 2 68 Sh.hnil))))))
def w51_0 : Wk G ((Int × Int × Int × Int × Int × Int × List Int × List Int × (List (Int × Int × Bool)) × (List (Int × Int)) × (List (List (Int × Int))) × (List (Int × Int × Int × Int × Bool)) × Int × Int × Int × Int × Int × Int × Bool × Bool × Int × Int × Int × Int × Int × Bool) × List (Int × Int × Int × Int)) := (Wk.one [] (Pk.snd (pk Sh.nil (Sh.hfix 0 82 (Sh.cons (Sh.int .i64) (Sh.cons (Sh.int .i64) (Sh.cons (Sh.int .i64) (Sh.cons (Sh.int .i64) (Sh.cons (Sh.int .i64) (Sh.cons (Sh.int .i64) (Sh.cons (Sh.ros 23) (Sh.cons (Sh.ros 3) (Sh.cons (Sh.ros 110) (Sh.cons (Sh.ros 25) (Sh.cons (Sh.ros 43) (Sh.cons (Sh.ros 40) (Sh.cons (Sh.int .i64) (Sh.cons (Sh.int .i64) (Sh.cons (Sh.int .u32) (Sh.cons (Sh.int .i64) (Sh.cons (Sh.int .i64) (Sh.cons (Sh.int .i64) (Sh.cons Sh.bool (Sh.cons Sh.bool (Sh.cons (Sh.int .i64) (Sh.cons (Sh.int .i64) (Sh.cons (Sh.int .i64) (Sh.cons (Sh.int .i64) (Sh.cons (Sh.int .i64) (Sh.fst (Sh.cons Sh.bool (Sh.snd (Sh.cons (Sh.snd (Sh.fn (.func 31) Sh.nil (Sh.snd (Sh.cons (Sh.ptr 1 0) Sh.nil)))) Sh.nil))))))))))))))))))))))))))))) (Sh.snd (Sh.hfix 1 62 (Sh.snd (Sh.cons (Sh.osl 3) Sh.nil)) (Sh.fst (Sh.hrow 3 68 Sh.hnil))))))))
def F51_0 (v : Int × (Int × Int × Int × Int × Int × Int × List Int × List Int × (List (Int × Int × Bool)) × (List (Int × Int)) × (List (List (Int × Int))) × (List (Int × Int × Int × Int × Bool)) × Int × Int × Int × Int × Int × Int × Bool × Bool × Int × Int × Int × Int × Int × Bool) × List (Int × Int × Int × Int)) : Option ((Int × Int × Int × Int × Int × Int × List Int × List Int × (List (Int × Int × Bool)) × (List (Int × Int)) × (List (List (Int × Int))) × (List (Int × Int × Int × Int × Bool)) × Int × Int × Int × Int × Int × Int × Bool × Bool × Int × Int × Int × Int × Int × Bool) × List (Int × Int × Int × Int)) :=
  bif v.2.1.2.2.2.2.2.2.2.2.2.2.2.2.2.2.2.2.2.2.1 then
    let x1863 : Int := (IntKind.wrap .i64 (v.1 - v.2.1.2.2.2.2.2.2.2.2.2.2.2.2.2.2.2.2.2.2.2.2.2.1))
    (F31_0 (((3 : Int), ((0 : Int), (v.1, x1863))), v.2.2)).bind fun r1864 =>
    let x1865 : Int := (IntKind.wrap .i64 (v.2.1.2.2.2.2.2.2.2.2.2.2.2.2.2.2.2.2.2.1 + (1 : Int)))
    bif (decide (x1865 > (0 : Int))) then
      bif (decide (x1865 ≥ v.2.1.2.2.2.2.2.2.2.2.2.2.2.2.2.2.2.1)) then
        let x1866 : Int := (IntKind.wrap .i64 (v.1 - v.2.1.2.2.2.2.2.2.2.2.2.2.2.2.2.2.2.2.2.2.2.2.1))
        (F31_0 (((6 : Int), ((0 : Int), (v.1, x1866))), r1864)).bind fun r1867 =>
        some ((v.2.1.1, (v.2.1.2.1, (v.2.1.2.2.1, (v.2.1.2.2.2.1, (v.2.1.2.2.2.2.1, (v.2.1.2.2.2.2.2.1, (v.2.1.2.2.2.2.2.2.1, (v.2.1.2.2.2.2.2.2.2.1, (v.2.1.2.2.2.2.2.2.2.2.1, (v.2.1.2.2.2.2.2.2.2.2.2.1, (v.2.1.2.2.2.2.2.2.2.2.2.2.1, (v.2.1.2.2.2.2.2.2.2.2.2.2.2.1, (v.2.1.2.2.2.2.2.2.2.2.2.2.2.2.1, (v.2.1.2.2.2.2.2.2.2.2.2.2.2.2.2.1, (v.2.1.2.2.2.2.2.2.2.2.2.2.2.2.2.2.1, (v.2.1.2.2.2.2.2.2.2.2.2.2.2.2.2.2.2.1, (v.2.1.2.2.2.2.2.2.2.2.2.2.2.2.2.2.2.2.1, (x1865, (v.2.1.2.2.2.2.2.2.2.2.2.2.2.2.2.2.2.2.2.2.1, (true, (v.2.1.2.2.2.2.2.2.2.2.2.2.2.2.2.2.2.2.2.2.2.2.1, (v.1, (v.1, ((0 : Int), (v.2.1.2.2.2.2.2.2.2.2.2.2.2.2.2.2.2.2.2.2.2.2.2.2.2.2.1, true))))))))))))))))))))))))), r1867)
      else
        some ((v.2.1.1, (v.2.1.2.1, (v.2.1.2.2.1, (v.2.1.2.2.2.1, (v.2.1.2.2.2.2.1, (v.2.1.2.2.2.2.2.1, (v.2.1.2.2.2.2.2.2.1, (v.2.1.2.2.2.2.2.2.2.1, (v.2.1.2.2.2.2.2.2.2.2.1, (v.2.1.2.2.2.2.2.2.2.2.2.1, (v.2.1.2.2.2.2.2.2.2.2.2.2.1, (v.2.1.2.2.2.2.2.2.2.2.2.2.2.1, (v.2.1.2.2.2.2.2.2.2.2.2.2.2.2.1, (v.2.1.2.2.2.2.2.2.2.2.2.2.2.2.2.1, (v.2.1.2.2.2.2.2.2.2.2.2.2.2.2.2.2.1, (v.2.1.2.2.2.2.2.2.2.2.2.2.2.2.2.2.2.1, (v.2.1.2.2.2.2.2.2.2.2.2.2.2.2.2.2.2.2.1, (x1865, (v.2.1.2.2.2.2.2.2.2.2.2.2.2.2.2.2.2.2.2.2.1, (true, (v.2.1.2.2.2.2.2.2.2.2.2.2.2.2.2.2.2.2.2.2.2.2.1, (v.1, (v.1, ((0 : Int), v.2.1.2.2.2.2.2.2.2.2.2.2.2.2.2.2.2.2.2.2.2.2.2.2.2.2)))))))))))))))))))))))), r1864)
    else
      some ((v.2.1.1, (v.2.1.2.1, (v.2.1.2.2.1, (v.2.1.2.2.2.1, (v.2.1.2.2.2.2.1, (v.2.1.2.2.2.2.2.1, (v.2.1.2.2.2.2.2.2.1, (v.2.1.2.2.2.2.2.2.2.1, (v.2.1.2.2.2.2.2.2.2.2.1, (v.2.1.2.2.2.2.2.2.2.2.2.1, (v.2.1.2.2.2.2.2.2.2.2.2.2.1, (v.2.1.2.2.2.2.2.2.2.2.2.2.2.1, (v.2.1.2.2.2.2.2.2.2.2.2.2.2.2.1, (v.2.1.2.2.2.2.2.2.2.2.2.2.2.2.2.1, (v.2.1.2.2.2.2.2.2.2.2.2.2.2.2.2.2.1, (v.2.1.2.2.2.2.2.2.2.2.2.2.2.2.2.2.2.1, (v.2.1.2.2.2.2.2.2.2.2.2.2.2.2.2.2.2.2.1, (x1865, (v.2.1.2.2.2.2.2.2.2.2.2.2.2.2.2.2.2.2.2.2.1, (true, (v.2.1.2.2.2.2.2.2.2.2.2.2.2.2.2.2.2.2.2.2.2.2.1, (v.1, (v.1, ((0 : Int), v.2.1.2.2.2.2.2.2.2.2.2.2.2.2.2.2.2.2.2.2.2.2.2.2.2.2)))))))))))))))))))))))), r1864)
  else
    bif (decide (v.2.1.2.2.2.2.2.2.2.2.2.2.2.2.2.2.2.2.2.1 > (0 : Int))) then
      bif (decide (v.2.1.2.2.2.2.2.2.2.2.2.2.2.2.2.2.2.2.2.1 ≥ v.2.1.2.2.2.2.2.2.2.2.2.2.2.2.2.2.2.1)) then
        let x1868 : Int := (IntKind.wrap .i64 (v.1 - v.1))
        (F31_0 (((6 : Int), ((0 : Int), (v.1, x1868))), v.2.2)).bind fun r1869 =>
        some ((v.2.1.1, (v.2.1.2.1, (v.2.1.2.2.1, (v.2.1.2.2.2.1, (v.2.1.2.2.2.2.1, (v.2.1.2.2.2.2.2.1, (v.2.1.2.2.2.2.2.2.1, (v.2.1.2.2.2.2.2.2.2.1, (v.2.1.2.2.2.2.2.2.2.2.1, (v.2.1.2.2.2.2.2.2.2.2.2.1, (v.2.1.2.2.2.2.2.2.2.2.2.2.1, (v.2.1.2.2.2.2.2.2.2.2.2.2.2.1, (v.2.1.2.2.2.2.2.2.2.2.2.2.2.2.1, (v.2.1.2.2.2.2.2.2.2.2.2.2.2.2.2.1, (v.2.1.2.2.2.2.2.2.2.2.2.2.2.2.2.2.1, (v.2.1.2.2.2.2.2.2.2.2.2.2.2.2.2.2.2.1, (v.2.1.2.2.2.2.2.2.2.2.2.2.2.2.2.2.2.2.1, (v.2.1.2.2.2.2.2.2.2.2.2.2.2.2.2.2.2.2.2.1, (true, (true, (v.1, (v.1, (v.1, ((0 : Int), (v.2.1.2.2.2.2.2.2.2.2.2.2.2.2.2.2.2.2.2.2.2.2.2.2.2.2.1, true))))))))))))))))))))))))), r1869)
      else
        some ((v.2.1.1, (v.2.1.2.1, (v.2.1.2.2.1, (v.2.1.2.2.2.1, (v.2.1.2.2.2.2.1, (v.2.1.2.2.2.2.2.1, (v.2.1.2.2.2.2.2.2.1, (v.2.1.2.2.2.2.2.2.2.1, (v.2.1.2.2.2.2.2.2.2.2.1, (v.2.1.2.2.2.2.2.2.2.2.2.1, (v.2.1.2.2.2.2.2.2.2.2.2.2.1, (v.2.1.2.2.2.2.2.2.2.2.2.2.2.1, (v.2.1.2.2.2.2.2.2.2.2.2.2.2.2.1, (v.2.1.2.2.2.2.2.2.2.2.2.2.2.2.2.1, (v.2.1.2.2.2.2.2.2.2.2.2.2.2.2.2.2.1, (v.2.1.2.2.2.2.2.2.2.2.2.2.2.2.2.2.2.1, (v.2.1.2.2.2.2.2.2.2.2.2.2.2.2.2.2.2.2.1, (v.2.1.2.2.2.2.2.2.2.2.2.2.2.2.2.2.2.2.2.1, (true, (true, (v.1, (v.1, (v.1, ((0 : Int), v.2.1.2.2.2.2.2.2.2.2.2.2.2.2.2.2.2.2.2.2.2.2.2.2.2.2)))))))))))))))))))))))), v.2.2)
    else
      some ((v.2.1.1, (v.2.1.2.1, (v.2.1.2.2.1, (v.2.1.2.2.2.1, (v.2.1.2.2.2.2.1, (v.2.1.2.2.2.2.2.1, (v.2.1.2.2.2.2.2.2.1, (v.2.1.2.2.2.2.2.2.2.1, (v.2.1.2.2.2.2.2.2.2.2.1, (v.2.1.2.2.2.2.2.2.2.2.2.1, (v.2.1.2.2.2.2.2.2.2.2.2.2.1, (v.2.1.2.2.2.2.2.2.2.2.2.2.2.1, (v.2.1.2.2.2.2.2.2.2.2.2.2.2.2.1, (v.2.1.2.2.2.2.2.2.2.2.2.2.2.2.2.1, (v.2.1.2.2.2.2.2.2.2.2.2.2.2.2.2.2.1, (v.2.1.2.2.2.2.2.2.2.2.2.2.2.2.2.2.2.1, (v.2.1.2.2.2.2.2.2.2.2.2.2.2.2.2.2.2.2.1, (v.2.1.2.2.2.2.2.2.2.2.2.2.2.2.2.2.2.2.2.1, (true, (true, (v.1, (v.1, (v.1, ((0 : Int), v.2.1.2.2.2.2.2.2.2.2.2.2.2.2.2.2.2.2.2.2.2.2.2.2.2.2)))))))))))))))))))))))), v.2.2)

noncomputable def k51_0 : List (Known Try.prog E) := [Known.of envOk [1, 1, 1, 1, 5] [.keep, .keep, .keep, .keep, (.ptr 0 0 62 [(.own 1 68)])] v31_0 F31_0 w31_0 ok31_0]
noncomputable def L51_0 (n id : Nat) (st : St G) : Option ((Int × Int × Int × Int × Int × Int × List Int × List Int × (List (Int × Int × Bool)) × (List (Int × Int)) × (List (List (Int × Int))) × (List (Int × Int × Int × Int × Bool)) × Int × Int × Int × Int × Int × Int × Bool × Bool × Int × Int × Int × Int × Int × Bool) × List (Int × Int × Int × Int)) := none
set_option maxRecDepth 100000 in
theorem e51_0 (n : Nat) (v : Int × (Int × Int × Int × Int × Int × Int × List Int × List Int × (List (Int × Int × Bool)) × (List (Int × Int)) × (List (List (Int × Int))) × (List (Int × Int × Int × Int × Bool)) × Int × Int × Int × Int × Int × Int × Bool × Bool × Int × Int × Int × Int × Int × Bool) × List (Int × Int × Int × Int)) : ev Try.prog E (oracle k51_0) Try.f51.ntmps (fun x => mem x []) (L51_0 n) (finA Try.prog E Try.f51.results.toList [(.ptr 1 0 62 [(.own 3 68)]), (.ptr 0 0 82 [.keep, .keep, .keep, .keep, .keep, .keep, (.ros 23), (.ros 3), (.ros 110), (.ros 25), (.ros 43), (.ros 40), .keep, .keep, .keep, .keep, .keep, .keep, .keep, .keep, .keep, .keep, .keep, .keep, .keep, .keep, (.fn (.func 31) [] [(.ptr 1 0 62 [])])])] w51_0.alts) 4000 [.code (Try.f51.body.getD .skip)] (argSt (v51_0.enc v)) = F51_0 v := by kernel_rfl
theorem ok51_0 : FnOk Try.prog E 51 v51_0.enc F51_0 w51_0.enc :=
  fn_known (fn := Try.f51) (c := (Try.f51.body.getD .skip)) Try.func51 (by kernel_rfl) rfl envOk (oracle_ok k51_0) mixed v51_0 F51_0 w51_0 [(.ptr 1 0 62 [(.own 3 68)]), (.ptr 0 0 82 [.keep, .keep, .keep, .keep, .keep, .keep, (.ros 23), (.ros 3), (.ros 110), (.ros 25), (.ros 43), (.ros 40), .keep, .keep, .keep, .keep, .keep, .keep, .keep, .keep, .keep, .keep, .keep, .keep, .keep, .keep, (.fn (.func 31) [] [(.ptr 1 0 62 [])])])] [] 4000 L51_0 (by kernel_rfl)
    (fun _ h => nomatch h) (fun v _ h => ⟨0, (e51_0 _ v).trans h⟩) (fun _ => by kernel_rfl) (fun _ => by kernel_rfl) (fun _ _ => by kernel_rfl)
end Go.Proofs.Ytdjjinfpfjoniaa.Ev
