import Derived.Test.YtbmbnopgekbppaaXEnv
set_option linter.unusedVariables false
namespace Go.Proofs.Ytbmbnopgekbppaa.Ev
open Go Go.RowKit
def sc0 : ByteArray := ⟨#[0, 1, 2, 2, 3, 3, 3, 3, 4, 4, 4, 4, 4, 4, 4, 4, 5, 5, 5, 5, 5, 5, 5, 5, 5, 5, 5, 5, 5, 5, 5, 5, 6, 6, 6, 6, 6, 6, 6, 6, 6, 6, 6, 6, 6, 6, 6, 6, 6, 6, 6, 6, 6, 6, 6, 6, 6, 6, 6, 6, 6, 6, 6, 6, 7, 7, 7, 7, 7, 7, 7, 7, 7, 7, 7, 7, 7, 7, 7, 7, 7, 7, 7, 7, 7, 7, 7, 7, 7, 7, 7, 7, 7, 7, 7, 7, 7, 7, 7, 7, 7, 7, 7, 7, 7, 7, 7, 7, 7, 7, 7, 7, 7, 7, 7, 7, 7, 7, 7, 7, 7, 7, 7, 7, 7, 7, 7, 7, 8, 8, 8, 8, 8, 8, 8, 8, 8, 8, 8, 8, 8, 8, 8, 8, 8, 8, 8, 8, 8, 8, 8, 8, 8, 8, 8, 8, 8, 8, 8, 8, 8, 8, 8, 8, 8, 8, 8, 8, 8, 8, 8, 8, 8, 8, 8, 8, 8, 8, 8, 8, 8, 8, 8, 8, 8, 8, 8, 8, 8, 8, 8, 8, 8, 8, 8, 8, 8, 8, 8, 8, 8, 8, 8, 8, 8, 8, 8, 8, 8, 8, 8, 8, 8, 8, 8, 8, 8, 8, 8, 8, 8, 8, 8, 8, 8, 8, 8, 8, 8, 8, 8, 8, 8, 8, 8, 8, 8, 8, 8, 8, 8, 8, 8, 8, 8, 8, 8, 8, 8, 8, 8, 8, 8, 8, 8, 8]⟩
/- chicane/wide.Of -/
abbrev A50_0 : Type := Int
abbrev R50_0 : Type := Int × Int
def v50_0 : Pk G Int := (Pk.fst (pk (Sh.fst (Sh.cons (Sh.int .i64) Sh.nil)) Sh.hnil))
def w50_0 : Wk G (Int × Int) := (Wk.one [(.agg [.keep, .keep])] (Pk.fst (pk (Sh.fst (Sh.cons (Sh.agg (Sh.cons (Sh.int .i64) (Sh.fst (Sh.cons (Sh.int .u64) Sh.nil)))) Sh.nil)) Sh.hnil)))
def F50_0 (v : Int) : Option (Int × Int) :=
  let x5 : Int := (Int.fdiv v (2 ^ 63))
  let x6 : Int := (IntKind.wrap .u64 v)
  some (x5, x6)

noncomputable def k50_0 : List (Known Try.prog E) := []
noncomputable def L50_0 (n id : Nat) (st : St G) : Option (Int × Int) := none
set_option maxRecDepth 100000 in
theorem e50_0 (n : Nat) (v : Int) : ev Try.prog E (oracle k50_0) Try.f50.ntmps (fun x => mem x []) (L50_0 n) (finF Try.prog E Try.f50.results.toList [[]] w50_0.alts) 4000 [.code (Try.f50.body.getD .skip)] (argSt (v50_0.enc v)) = F50_0 v := by kernel_rfl
theorem ok50_0 : FnOk Try.prog E 50 v50_0.enc F50_0 w50_0.enc :=
  fn_known (fn := Try.f50) (c := (Try.f50.body.getD .skip)) Try.func50 (by kernel_rfl) rfl envOk (oracle_ok k50_0) mixed v50_0 F50_0 w50_0 [] [[]] (by kernel_rfl) [] 4000 L50_0 (by kernel_rfl)
    (fun _ h => nomatch h) (fun v _ h => ⟨0, (e50_0 _ v).trans h⟩) (fun _ => by kernel_rfl) (fun _ => by kernel_rfl) (fun _ _ => by kernel_rfl)
/- math/bits.Sub64 -/
abbrev A69_x : Type := Int × Int × Int
abbrev R69_x : Type := Int × Int
def v69_x : Pk G (Int × Int × Int) := p3u
def w69_x : Wk G (Int × Int) := Wk.one [.keep, .keep] p2u
def F69_x (v : Int × Int × Int) : Option (Int × Int) := sub64F v
theorem ok69_x : FnOk Try.prog E 69 v69_x.enc F69_x w69_x.enc := sub64_known Try.func69 (by kernel_rfl) (by kernel_rfl) (by kernel_rfl) (by kernel_rfl)
/- chicane/wide.Neg -/
abbrev A49_0 : Type := Int × Int
abbrev R49_0 : Type := (Int × Int) × Bool
def v49_0 : Pk G (Int × Int) := (Pk.fst (pk (Sh.fst (Sh.cons (Sh.agg (Sh.cons (Sh.int .i64) (Sh.fst (Sh.cons (Sh.int .u64) Sh.nil)))) Sh.nil)) Sh.hnil))
def w49_0 : Wk G ((Int × Int) × Bool) := (Wk.one [(.agg [.keep, .keep]), .keep] (Pk.fst (pk (Sh.cons (Sh.agg (Sh.cons (Sh.int .i64) (Sh.fst (Sh.cons (Sh.int .u64) Sh.nil)))) (Sh.fst (Sh.cons Sh.bool Sh.nil))) Sh.hnil)))
def F49_0 (v : Int × Int) : Option ((Int × Int) × Bool) :=
  (F69_x ((0 : Int), (v.2, (0 : Int)))).bind fun r20 =>
  let x21 : Int := (IntKind.wrap .u64 v.1)
  (F69_x ((0 : Int), (x21, r20.2))).bind fun r22 =>
  bif (decide (v.1 < (0 : Int))) then
    let x23 : Int := (IntKind.wrap .i64 r22.1)
    bif (decide (x23 < (0 : Int))) then
      some (((0 : Int), (0 : Int)), false)
    else
      let x24 : Int := (IntKind.wrap .i64 r22.1)
      some ((x24, r20.1), true)
  else
    let x25 : Int := (IntKind.wrap .i64 r22.1)
    some ((x25, r20.1), true)

noncomputable def k49_0 : List (Known Try.prog E) := [Known.of envOk [1, 1, 1] [.keep, .keep, .keep] v69_x F69_x w69_x ok69_x]
noncomputable def L49_0 (n id : Nat) (st : St G) : Option ((Int × Int) × Bool) := none
set_option maxRecDepth 100000 in
theorem e49_0 (n : Nat) (v : Int × Int) : ev Try.prog E (oracle k49_0) Try.f49.ntmps (fun x => mem x []) (L49_0 n) (finF Try.prog E Try.f49.results.toList [[]] w49_0.alts) 4000 [.code (Try.f49.body.getD .skip)] (argSt (v49_0.enc v)) = F49_0 v := by kernel_rfl
theorem ok49_0 : FnOk Try.prog E 49 v49_0.enc F49_0 w49_0.enc :=
  fn_known (fn := Try.f49) (c := (Try.f49.body.getD .skip)) Try.func49 (by kernel_rfl) rfl envOk (oracle_ok k49_0) mixed v49_0 F49_0 w49_0 [] [[]] (by kernel_rfl) [] 4000 L49_0 (by kernel_rfl)
    (fun _ h => nomatch h) (fun v _ h => ⟨0, (e49_0 _ v).trans h⟩) (fun _ => by kernel_rfl) (fun _ => by kernel_rfl) (fun _ _ => by kernel_rfl)
/- math/bits.Add64 -/
abbrev A70_x : Type := Int × Int × Int
abbrev R70_x : Type := Int × Int
def v70_x : Pk G (Int × Int × Int) := p3u
def w70_x : Wk G (Int × Int) := Wk.one [.keep, .keep] p2u
def F70_x (v : Int × Int × Int) : Option (Int × Int) := add64F v
theorem ok70_x : FnOk Try.prog E 70 v70_x.enc F70_x w70_x.enc := add64_known Try.func70 (by kernel_rfl) (by kernel_rfl) (by kernel_rfl) (by kernel_rfl)
/- chicane/wide.Add -/
abbrev A51_0 : Type := (Int × Int) × Int × Int
abbrev R51_0 : Type := (Int × Int) × Bool
def v51_0 : Pk G ((Int × Int) × Int × Int) := (Pk.fst (pk (Sh.cons (Sh.agg (Sh.cons (Sh.int .i64) (Sh.fst (Sh.cons (Sh.int .u64) Sh.nil)))) (Sh.fst (Sh.cons (Sh.agg (Sh.cons (Sh.int .i64) (Sh.fst (Sh.cons (Sh.int .u64) Sh.nil)))) Sh.nil))) Sh.hnil))
def w51_0 : Wk G ((Int × Int) × Bool) := (Wk.one [(.agg [.keep, .keep]), .keep] (Pk.fst (pk (Sh.cons (Sh.agg (Sh.cons (Sh.int .i64) (Sh.fst (Sh.cons (Sh.int .u64) Sh.nil)))) (Sh.fst (Sh.cons Sh.bool Sh.nil))) Sh.hnil)))
def F51_0 (v : (Int × Int) × Int × Int) : Option ((Int × Int) × Bool) :=
  (F70_x (v.1.2, (v.2.2, (0 : Int)))).bind fun r42 =>
  let x43 : Int := (IntKind.wrap .u64 v.1.1)
  let x44 : Int := (IntKind.wrap .u64 v.2.1)
  (F70_x (x43, (x44, r42.2))).bind fun r45 =>
  bif ((decide (v.1.1 < (0 : Int))) == (decide (v.2.1 < (0 : Int)))) then
    let x46 : Int := (IntKind.wrap .i64 r45.1)
    bif (!((decide (x46 < (0 : Int))) == (decide (v.1.1 < (0 : Int))))) then
      some (((0 : Int), (0 : Int)), false)
    else
      let x47 : Int := (IntKind.wrap .i64 r45.1)
      some ((x47, r42.1), true)
  else
    let x48 : Int := (IntKind.wrap .i64 r45.1)
    some ((x48, r42.1), true)

noncomputable def k51_0 : List (Known Try.prog E) := [Known.of envOk [1, 1, 1] [.keep, .keep, .keep] v70_x F70_x w70_x ok70_x]
noncomputable def L51_0 (n id : Nat) (st : St G) : Option ((Int × Int) × Bool) := none
set_option maxRecDepth 100000 in
theorem e51_0 (n : Nat) (v : (Int × Int) × Int × Int) : ev Try.prog E (oracle k51_0) Try.f51.ntmps (fun x => mem x []) (L51_0 n) (finF Try.prog E Try.f51.results.toList [[]] w51_0.alts) 4000 [.code (Try.f51.body.getD .skip)] (argSt (v51_0.enc v)) = F51_0 v := by kernel_rfl
theorem ok51_0 : FnOk Try.prog E 51 v51_0.enc F51_0 w51_0.enc :=
  fn_known (fn := Try.f51) (c := (Try.f51.body.getD .skip)) Try.func51 (by kernel_rfl) rfl envOk (oracle_ok k51_0) mixed v51_0 F51_0 w51_0 [] [[]] (by kernel_rfl) [] 4000 L51_0 (by kernel_rfl)
    (fun _ h => nomatch h) (fun v _ h => ⟨0, (e51_0 _ v).trans h⟩) (fun _ => by kernel_rfl) (fun _ => by kernel_rfl) (fun _ _ => by kernel_rfl)
/- (*chicane/fx.M).bound -/
abbrev A53_0 : Type := Bool × Bool
abbrev R53_0 : Type := Int × Bool
def v53_0 : Pk G (Bool × Bool) := (pk (Sh.snd (Sh.cons (Sh.ptr 0 0) (Sh.fst (Sh.cons Sh.bool Sh.nil)))) (Sh.fst (Sh.hfix 0 29 (Sh.fst (Sh.cons Sh.bool Sh.nil)) Sh.hnil)))
def w53_0 : Wk G (Int × Bool) := (Wk.one [.keep] (pk (Sh.fst (Sh.cons (Sh.int .i64) Sh.nil)) (Sh.fst (Sh.hfix 0 29 (Sh.fst (Sh.cons Sh.bool Sh.nil)) Sh.hnil))))
def F53_0 (v : Bool × Bool) : Option (Int × Bool) :=
  bif v.1 then
    some ((-9223372036854775808 : Int), true)
  else
    some ((9223372036854775807 : Int), true)

noncomputable def k53_0 : List (Known Try.prog E) := []
noncomputable def L53_0 (n id : Nat) (st : St G) : Option (Int × Bool) := none
set_option maxRecDepth 100000 in
theorem e53_0 (n : Nat) (v : Bool × Bool) : ev Try.prog E (oracle k53_0) Try.f53.ntmps (fun x => mem x []) (L53_0 n) (finF Try.prog E Try.f53.results.toList [[(.ptr 0 0 29 [.keep])]] w53_0.alts) 4000 [.code (Try.f53.body.getD .skip)] (argSt (v53_0.enc v)) = F53_0 v := by kernel_rfl
theorem ok53_0 : FnOk Try.prog E 53 v53_0.enc F53_0 w53_0.enc :=
  fn_known (fn := Try.f53) (c := (Try.f53.body.getD .skip)) Try.func53 (by kernel_rfl) rfl envOk (oracle_ok k53_0) mixed v53_0 F53_0 w53_0 [(.ptr 0 0 29 [.keep])] [[(.ptr 0 0 29 [.keep])]] (by kernel_rfl) [] 4000 L53_0 (by kernel_rfl)
    (fun _ h => nomatch h) (fun v _ h => ⟨0, (e53_0 _ v).trans h⟩) (fun _ => by kernel_rfl) (fun _ => by kernel_rfl) (fun _ _ => by kernel_rfl)
/- chicane/fx.fit -/
abbrev A52_0 : Type := (Int × Int) × Bool
abbrev R52_0 : Type := Int × Bool
def v52_0 : Pk G ((Int × Int) × Bool) := (pk (Sh.fst (Sh.cons (Sh.agg (Sh.cons (Sh.int .i64) (Sh.fst (Sh.cons (Sh.int .u64) Sh.nil)))) (Sh.snd (Sh.cons (Sh.snd (Sh.fn (.func 53) (Sh.snd (Sh.cons (Sh.ptr 0 0) Sh.nil)) Sh.nil)) Sh.nil)))) (Sh.fst (Sh.hfix 0 29 (Sh.fst (Sh.cons Sh.bool Sh.nil)) Sh.hnil)))
def w52_0 : Wk G (Int × Bool) := (Wk.one [.keep] (pk (Sh.fst (Sh.cons (Sh.int .i64) Sh.nil)) (Sh.fst (Sh.hfix 0 29 (Sh.fst (Sh.cons Sh.bool Sh.nil)) Sh.hnil))))
def F52_0 (v : (Int × Int) × Bool) : Option (Int × Bool) :=
  let x58 : Int := (IntKind.wrap .i64 v.1.2)
  let x59 : Int := (Int.fdiv x58 (2 ^ 63))
  bif (v.1.1 != x59) then
    (F53_0 ((decide (v.1.1 < (0 : Int))), v.2)).bind fun r60 =>
    some (r60)
  else
    let x61 : Int := (IntKind.wrap .i64 v.1.2)
    some (x61, v.2)

noncomputable def k52_0 : List (Known Try.prog E) := [Known.of envOk [5, 2] [(.ptr 0 0 29 [.keep]), .keep] v53_0 F53_0 w53_0 ok53_0]
noncomputable def L52_0 (n id : Nat) (st : St G) : Option (Int × Bool) := none
set_option maxRecDepth 100000 in
theorem e52_0 (n : Nat) (v : (Int × Int) × Bool) : ev Try.prog E (oracle k52_0) Try.f52.ntmps (fun x => mem x []) (L52_0 n) (finF Try.prog E Try.f52.results.toList [[(.ptr 0 0 29 [.keep])]] w52_0.alts) 4000 [.code (Try.f52.body.getD .skip)] (argSt (v52_0.enc v)) = F52_0 v := by kernel_rfl
theorem ok52_0 : FnOk Try.prog E 52 v52_0.enc F52_0 w52_0.enc :=
  fn_known (fn := Try.f52) (c := (Try.f52.body.getD .skip)) Try.func52 (by kernel_rfl) rfl envOk (oracle_ok k52_0) mixed v52_0 F52_0 w52_0 [(.ptr 0 0 29 [.keep])] [[(.ptr 0 0 29 [.keep])]] (by kernel_rfl) [] 4000 L52_0 (by kernel_rfl)
    (fun _ h => nomatch h) (fun v _ h => ⟨0, (e52_0 _ v).trans h⟩) (fun _ => by kernel_rfl) (fun _ => by kernel_rfl) (fun _ _ => by kernel_rfl)
/- (*chicane/fx.M).Sub -/
abbrev A23_0 : Type := (Int × Int) × Bool
abbrev R23_0 : Type := Int × Bool
def v23_0 : Pk G ((Int × Int) × Bool) := (pk (Sh.snd (Sh.cons (Sh.ptr 0 0) (Sh.cons (Sh.int .i64) (Sh.fst (Sh.cons (Sh.int .i64) Sh.nil))))) (Sh.fst (Sh.hfix 0 29 (Sh.fst (Sh.cons Sh.bool Sh.nil)) Sh.hnil)))
def w23_0 : Wk G (Int × Bool) := (Wk.one [.keep] (pk (Sh.fst (Sh.cons (Sh.int .i64) Sh.nil)) (Sh.fst (Sh.hfix 0 29 (Sh.fst (Sh.cons Sh.bool Sh.nil)) Sh.hnil))))
def F23_0 (v : (Int × Int) × Bool) : Option (Int × Bool) :=
  (F50_0 v.1.2).bind fun r68 =>
  (F49_0 r68).bind fun r69 =>
  (F50_0 v.1.1).bind fun r70 =>
  (F51_0 (r70, r69.1)).bind fun r71 =>
  (F52_0 (r71.1, v.2)).bind fun r72 =>
  some (r72)

noncomputable def k23_0 : List (Known Try.prog E) := [Known.of envOk [1] [.keep] v50_0 F50_0 w50_0 ok50_0, Known.of envOk [9] [(.agg [.keep, .keep])] v49_0 F49_0 w49_0 ok49_0, Known.of envOk [9, 9] [(.agg [.keep, .keep]), (.agg [.keep, .keep])] v51_0 F51_0 w51_0 ok51_0, Known.of envOk [9, 153] [(.agg [.keep, .keep]), (.fn (.func 53) [(.ptr 0 0 29 [.keep])] [])] v52_0 F52_0 w52_0 ok52_0]
noncomputable def L23_0 (n id : Nat) (st : St G) : Option (Int × Bool) := none
set_option maxRecDepth 100000 in
theorem e23_0 (n : Nat) (v : (Int × Int) × Bool) : ev Try.prog E (oracle k23_0) Try.f23.ntmps (fun x => mem x []) (L23_0 n) (finF Try.prog E Try.f23.results.toList [[(.ptr 0 0 29 [.keep])]] w23_0.alts) 4000 [.code (Try.f23.body.getD .skip)] (argSt (v23_0.enc v)) = F23_0 v := by kernel_rfl
theorem ok23_0 : FnOk Try.prog E 23 v23_0.enc F23_0 w23_0.enc :=
  fn_known (fn := Try.f23) (c := (Try.f23.body.getD .skip)) Try.func23 (by kernel_rfl) rfl envOk (oracle_ok k23_0) mixed v23_0 F23_0 w23_0 [(.ptr 0 0 29 [.keep])] [[(.ptr 0 0 29 [.keep])]] (by kernel_rfl) [] 4000 L23_0 (by kernel_rfl)
    (fun _ h => nomatch h) (fun v _ h => ⟨0, (e23_0 _ v).trans h⟩) (fun _ => by kernel_rfl) (fun _ => by kernel_rfl) (fun _ _ => by kernel_rfl)
/- chicane/profile.way -/
abbrev A27_0 : Type := ((Int × Int) × Int × Int) × Bool
abbrev R27_0 : Type := (Int × Int) × Bool
def v27_0 : Pk G (((Int × Int) × Int × Int) × Bool) := (pk (Sh.snd (Sh.cons (Sh.ptr 0 0) (Sh.cons (Sh.agg (Sh.cons (Sh.int .i64) (Sh.fst (Sh.cons (Sh.int .i64) Sh.nil)))) (Sh.fst (Sh.cons (Sh.agg (Sh.cons (Sh.int .i64) (Sh.fst (Sh.cons (Sh.int .i64) Sh.nil)))) Sh.nil))))) (Sh.fst (Sh.hfix 0 29 (Sh.fst (Sh.cons Sh.bool Sh.nil)) Sh.hnil)))
def w27_0 : Wk G ((Int × Int) × Bool) := (Wk.one [(.agg [.keep, .keep])] (pk (Sh.fst (Sh.cons (Sh.agg (Sh.cons (Sh.int .i64) (Sh.fst (Sh.cons (Sh.int .i64) Sh.nil)))) Sh.nil)) (Sh.fst (Sh.hfix 0 29 (Sh.fst (Sh.cons Sh.bool Sh.nil)) Sh.hnil))))
def F27_0 (v : ((Int × Int) × Int × Int) × Bool) : Option ((Int × Int) × Bool) :=
  (F23_0 ((v.1.2.1, v.1.1.1), v.2)).bind fun r77 =>
  (F23_0 ((v.1.2.2, v.1.1.2), r77.2)).bind fun r78 =>
  some ((r77.1, r78.1), r78.2)

noncomputable def k27_0 : List (Known Try.prog E) := [Known.of envOk [5, 1, 1] [(.ptr 0 0 29 [.keep]), .keep, .keep] v23_0 F23_0 w23_0 ok23_0]
noncomputable def L27_0 (n id : Nat) (st : St G) : Option ((Int × Int) × Bool) := none
set_option maxRecDepth 100000 in
theorem e27_0 (n : Nat) (v : ((Int × Int) × Int × Int) × Bool) : ev Try.prog E (oracle k27_0) Try.f27.ntmps (fun x => mem x []) (L27_0 n) (finF Try.prog E Try.f27.results.toList [[(.ptr 0 0 29 [.keep])]] w27_0.alts) 4000 [.code (Try.f27.body.getD .skip)] (argSt (v27_0.enc v)) = F27_0 v := by kernel_rfl
theorem ok27_0 : FnOk Try.prog E 27 v27_0.enc F27_0 w27_0.enc :=
  fn_known (fn := Try.f27) (c := (Try.f27.body.getD .skip)) Try.func27 (by kernel_rfl) rfl envOk (oracle_ok k27_0) mixed v27_0 F27_0 w27_0 [(.ptr 0 0 29 [.keep])] [[(.ptr 0 0 29 [.keep])]] (by kernel_rfl) [] 4000 L27_0 (by kernel_rfl)
    (fun _ h => nomatch h) (fun v _ h => ⟨0, (e27_0 _ v).trans h⟩) (fun _ => by kernel_rfl) (fun _ => by kernel_rfl) (fun _ _ => by kernel_rfl)
/- math/bits.Mul64 -/
abbrev A71_0 : Type := Int × Int
abbrev R71_0 : Type := Int × Int
def v71_0 : Pk G (Int × Int) := (Pk.fst (pk (Sh.cons (Sh.int .u64) (Sh.fst (Sh.cons (Sh.int .u64) Sh.nil))) Sh.hnil))
def w71_0 : Wk G (Int × Int) := (Wk.one [.keep, .keep] (Pk.fst (pk (Sh.cons (Sh.int .u64) (Sh.fst (Sh.cons (Sh.int .u64) Sh.nil))) Sh.hnil)))
def F71_0 (v : Int × Int) : Option (Int × Int) :=
  let x117 : Int := (Go.bits .and .u64 v.1 (4294967295 : Int))
  let x118 : Int := (Int.fdiv v.1 (2 ^ 32))
  let x119 : Int := (Go.bits .and .u64 v.2 (4294967295 : Int))
  let x120 : Int := (Int.fdiv v.2 (2 ^ 32))
  let x121 : Int := (IntKind.wrap .u64 (x117 * x119))
  let x122 : Int := (IntKind.wrap .u64 (x118 * x119))
  let x123 : Int := (Int.fdiv x121 (2 ^ 32))
  let x124 : Int := (IntKind.wrap .u64 (x122 + x123))
  let x125 : Int := (Go.bits .and .u64 x124 (4294967295 : Int))
  let x126 : Int := (Int.fdiv x124 (2 ^ 32))
  let x127 : Int := (IntKind.wrap .u64 (x117 * x120))
  let x128 : Int := (IntKind.wrap .u64 (x125 + x127))
  let x129 : Int := (IntKind.wrap .u64 (x118 * x120))
  let x130 : Int := (IntKind.wrap .u64 (x129 + x126))
  let x131 : Int := (Int.fdiv x128 (2 ^ 32))
  let x132 : Int := (IntKind.wrap .u64 (x130 + x131))
  let x133 : Int := (IntKind.wrap .u64 (v.1 * v.2))
  some (x132, x133)

noncomputable def k71_0 : List (Known Try.prog E) := []
noncomputable def L71_0 (n id : Nat) (st : St G) : Option (Int × Int) := none
set_option maxRecDepth 100000 in
theorem e71_0 (n : Nat) (v : Int × Int) : ev Try.prog E (oracle k71_0) Try.f71.ntmps (fun x => mem x []) (L71_0 n) (finF Try.prog E Try.f71.results.toList [[]] w71_0.alts) 4000 [.code (Try.f71.body.getD .skip)] (argSt (v71_0.enc v)) = F71_0 v := by kernel_rfl
theorem ok71_0 : FnOk Try.prog E 71 v71_0.enc F71_0 w71_0.enc :=
  fn_known (fn := Try.f71) (c := (Try.f71.body.getD .skip)) Try.func71 (by kernel_rfl) rfl envOk (oracle_ok k71_0) mixed v71_0 F71_0 w71_0 [] [[]] (by kernel_rfl) [] 4000 L71_0 (by kernel_rfl)
    (fun _ h => nomatch h) (fun v _ h => ⟨0, (e71_0 _ v).trans h⟩) (fun _ => by kernel_rfl) (fun _ => by kernel_rfl) (fun _ _ => by kernel_rfl)
/- chicane/wide.Mul -/
abbrev A55_0 : Type := Int × Int
abbrev R55_0 : Type := Int × Int
def v55_0 : Pk G (Int × Int) := (Pk.fst (pk (Sh.cons (Sh.int .i64) (Sh.fst (Sh.cons (Sh.int .i64) Sh.nil))) Sh.hnil))
def w55_0 : Wk G (Int × Int) := (Wk.one [(.agg [.keep, .keep])] (Pk.fst (pk (Sh.fst (Sh.cons (Sh.agg (Sh.cons (Sh.int .i64) (Sh.fst (Sh.cons (Sh.int .u64) Sh.nil)))) Sh.nil)) Sh.hnil)))
def F55_0 (v : Int × Int) : Option (Int × Int) :=
  let x158 : Int := (IntKind.wrap .u64 v.1)
  let x159 : Int := (IntKind.wrap .u64 v.2)
  (F71_0 (x158, x159)).bind fun r160 =>
  bif (decide (v.1 < (0 : Int))) then
    let x161 : Int := (IntKind.wrap .u64 v.2)
    let x162 : Int := (IntKind.wrap .u64 (r160.1 - x161))
    bif (decide (v.2 < (0 : Int))) then
      let x163 : Int := (IntKind.wrap .u64 v.1)
      let x164 : Int := (IntKind.wrap .u64 (x162 - x163))
      let x165 : Int := (IntKind.wrap .i64 x164)
      some (x165, r160.2)
    else
      let x166 : Int := (IntKind.wrap .i64 x162)
      some (x166, r160.2)
  else
    bif (decide (v.2 < (0 : Int))) then
      let x167 : Int := (IntKind.wrap .u64 v.1)
      let x168 : Int := (IntKind.wrap .u64 (r160.1 - x167))
      let x169 : Int := (IntKind.wrap .i64 x168)
      some (x169, r160.2)
    else
      let x170 : Int := (IntKind.wrap .i64 r160.1)
      some (x170, r160.2)

noncomputable def k55_0 : List (Known Try.prog E) := [Known.of envOk [1, 1] [.keep, .keep] v71_0 F71_0 w71_0 ok71_0]
noncomputable def L55_0 (n id : Nat) (st : St G) : Option (Int × Int) := none
set_option maxRecDepth 100000 in
theorem e55_0 (n : Nat) (v : Int × Int) : ev Try.prog E (oracle k55_0) Try.f55.ntmps (fun x => mem x []) (L55_0 n) (finF Try.prog E Try.f55.results.toList [[]] w55_0.alts) 4000 [.code (Try.f55.body.getD .skip)] (argSt (v55_0.enc v)) = F55_0 v := by kernel_rfl
theorem ok55_0 : FnOk Try.prog E 55 v55_0.enc F55_0 w55_0.enc :=
  fn_known (fn := Try.f55) (c := (Try.f55.body.getD .skip)) Try.func55 (by kernel_rfl) rfl envOk (oracle_ok k55_0) mixed v55_0 F55_0 w55_0 [] [[]] (by kernel_rfl) [] 4000 L55_0 (by kernel_rfl)
    (fun _ h => nomatch h) (fun v _ h => ⟨0, (e55_0 _ v).trans h⟩) (fun _ => by kernel_rfl) (fun _ => by kernel_rfl) (fun _ _ => by kernel_rfl)
/- (*chicane/fx.M).Mul -/
abbrev A26_0 : Type := (Int × Int) × Bool
abbrev R26_0 : Type := Int × Bool
def v26_0 : Pk G ((Int × Int) × Bool) := (pk (Sh.snd (Sh.cons (Sh.ptr 0 0) (Sh.cons (Sh.int .i64) (Sh.fst (Sh.cons (Sh.int .i64) Sh.nil))))) (Sh.fst (Sh.hfix 0 29 (Sh.fst (Sh.cons Sh.bool Sh.nil)) Sh.hnil)))
def w26_0 : Wk G (Int × Bool) := (Wk.one [.keep] (pk (Sh.fst (Sh.cons (Sh.int .i64) Sh.nil)) (Sh.fst (Sh.hfix 0 29 (Sh.fst (Sh.cons Sh.bool Sh.nil)) Sh.hnil))))
def F26_0 (v : (Int × Int) × Bool) : Option (Int × Bool) :=
  (F55_0 v.1).bind fun r203 =>
  let x204 : Int := (IntKind.wrap .u32 r203.2)
  let x205 : Int := (Int.fdiv r203.1 (2 ^ 32))
  let x206 : Int := (IntKind.wrap .u64 r203.1)
  let x207 : Int := (IntKind.wrap .u64 (x206 * 2 ^ 32))
  let x208 : Int := (Int.fdiv r203.2 (2 ^ 32))
  let x209 : Int := (Go.bits .or .u64 x207 x208)
  bif (decide (x204 > (2147483648 : Int))) then
    (F50_0 (1 : Int)).bind fun r210 =>
    (F51_0 ((x205, x209), r210)).bind fun r211 =>
    (F52_0 (r211.1, v.2)).bind fun r212 =>
    some (r212)
  else
    bif (x204 == (2147483648 : Int)) then
      let x213 : Int := (Go.bits .and .u64 x209 (1 : Int))
      bif (x213 == (1 : Int)) then
        (F50_0 (1 : Int)).bind fun r214 =>
        (F51_0 ((x205, x209), r214)).bind fun r215 =>
        (F52_0 (r215.1, v.2)).bind fun r216 =>
        some (r216)
      else
        (F52_0 ((x205, x209), v.2)).bind fun r217 =>
        some (r217)
    else
      (F52_0 ((x205, x209), v.2)).bind fun r218 =>
      some (r218)

noncomputable def k26_0 : List (Known Try.prog E) := [Known.of envOk [1, 1] [.keep, .keep] v55_0 F55_0 w55_0 ok55_0, Known.of envOk [1] [.keep] v50_0 F50_0 w50_0 ok50_0, Known.of envOk [9, 9] [(.agg [.keep, .keep]), (.agg [.keep, .keep])] v51_0 F51_0 w51_0 ok51_0, Known.of envOk [9, 153] [(.agg [.keep, .keep]), (.fn (.func 53) [(.ptr 0 0 29 [.keep])] [])] v52_0 F52_0 w52_0 ok52_0]
noncomputable def L26_0 (n id : Nat) (st : St G) : Option (Int × Bool) := none
set_option maxRecDepth 100000 in
theorem e26_0 (n : Nat) (v : (Int × Int) × Bool) : ev Try.prog E (oracle k26_0) Try.f26.ntmps (fun x => mem x []) (L26_0 n) (finF Try.prog E Try.f26.results.toList [[(.ptr 0 0 29 [.keep])]] w26_0.alts) 4000 [.code (Try.f26.body.getD .skip)] (argSt (v26_0.enc v)) = F26_0 v := by kernel_rfl
theorem ok26_0 : FnOk Try.prog E 26 v26_0.enc F26_0 w26_0.enc :=
  fn_known (fn := Try.f26) (c := (Try.f26.body.getD .skip)) Try.func26 (by kernel_rfl) rfl envOk (oracle_ok k26_0) mixed v26_0 F26_0 w26_0 [(.ptr 0 0 29 [.keep])] [[(.ptr 0 0 29 [.keep])]] (by kernel_rfl) [] 4000 L26_0 (by kernel_rfl)
    (fun _ h => nomatch h) (fun v _ h => ⟨0, (e26_0 _ v).trans h⟩) (fun _ => by kernel_rfl) (fun _ => by kernel_rfl) (fun _ _ => by kernel_rfl)
/- (chicane/wide.size).below -/
abbrev A72_0 : Type := (Int × Int) × Int × Int
abbrev R72_0 : Type := Bool
def v72_0 : Pk G ((Int × Int) × Int × Int) := (Pk.fst (pk (Sh.cons (Sh.agg (Sh.cons (Sh.int .u64) (Sh.fst (Sh.cons (Sh.int .u64) Sh.nil)))) (Sh.fst (Sh.cons (Sh.agg (Sh.cons (Sh.int .u64) (Sh.fst (Sh.cons (Sh.int .u64) Sh.nil)))) Sh.nil))) Sh.hnil))
def w72_0 : Wk G Bool := (Wk.one [.keep] (Pk.fst (pk (Sh.fst (Sh.cons Sh.bool Sh.nil)) Sh.hnil)))
def F72_0 (v : (Int × Int) × Int × Int) : Option Bool :=
  bif (decide (v.1.1 < v.2.1)) then
    some (true)
  else
    bif (v.1.1 == v.2.1) then
      some (decide (v.1.2 < v.2.2))
    else
      some (false)

noncomputable def k72_0 : List (Known Try.prog E) := []
noncomputable def L72_0 (n id : Nat) (st : St G) : Option Bool := none
set_option maxRecDepth 100000 in
theorem e72_0 (n : Nat) (v : (Int × Int) × Int × Int) : ev Try.prog E (oracle k72_0) Try.f72.ntmps (fun x => mem x []) (L72_0 n) (finF Try.prog E Try.f72.results.toList [[]] w72_0.alts) 4000 [.code (Try.f72.body.getD .skip)] (argSt (v72_0.enc v)) = F72_0 v := by kernel_rfl
theorem ok72_0 : FnOk Try.prog E 72 v72_0.enc F72_0 w72_0.enc :=
  fn_known (fn := Try.f72) (c := (Try.f72.body.getD .skip)) Try.func72 (by kernel_rfl) rfl envOk (oracle_ok k72_0) mixed v72_0 F72_0 w72_0 [] [[]] (by kernel_rfl) [] 4000 L72_0 (by kernel_rfl)
    (fun _ h => nomatch h) (fun v _ h => ⟨0, (e72_0 _ v).trans h⟩) (fun _ => by kernel_rfl) (fun _ => by kernel_rfl) (fun _ _ => by kernel_rfl)
/- chicane/wide.Root -/
abbrev A54_0 : Type := Int × Int
abbrev R54_0 : Type := Int
def v54_0 : Pk G (Int × Int) := (Pk.fst (pk (Sh.fst (Sh.cons (Sh.agg (Sh.cons (Sh.int .i64) (Sh.fst (Sh.cons (Sh.int .u64) Sh.nil)))) Sh.nil)) Sh.hnil))
def w54_0 : Wk G Int := (Wk.one [.keep] (Pk.fst (pk (Sh.fst (Sh.cons (Sh.int .u64) Sh.nil)) Sh.hnil)))
def c54_0_5 : Pk G ((Int × Int) × Int × Int) := (pk (Sh.snd (Sh.cons (Sh.ptr 0 0) (Sh.cons (Sh.int .u64) (Sh.fst (Sh.cons (Sh.int .u64) Sh.nil))))) (Sh.fst (Sh.hfix 0 102 (Sh.cons (Sh.int .u64) (Sh.fst (Sh.cons (Sh.int .u64) Sh.nil))) Sh.hnil)))
def B54_0_5 (K : (((Int × Int) × Int × Int) → Option Int)) (v : (Int × Int) × Int × Int) : Option Int :=
  bif (decide (v.1.1 < v.1.2)) then
    let x249 : Int := (IntKind.wrap .u64 (v.1.2 - v.1.1))
    let x250 : Int := (IntKind.wrap .u64 (x249 + (1 : Int)))
    let x251 : Int := (IntKind.wrap .u64 (Int.tdiv x250 (2 : Int)))
    let x252 : Int := (IntKind.wrap .u64 (v.1.1 + x251))
    (F71_0 (x252, x252)).bind fun r253 =>
    (F72_0 (v.2, r253)).bind fun r254 =>
    bif r254 then
      let x255 : Int := (IntKind.wrap .u64 (x252 - (1 : Int)))
      K ((v.1.1, x255), v.2)
    else
      K ((x252, v.1.2), v.2)
  else
    some (v.1.1)

def E54_0 (K : (((Int × Int) × Int × Int) → Option Int)) (v : Int × Int) : Option Int :=
  bif (decide (v.1 < (0 : Int))) then
    some (0 : Int)
  else
    let x247 : Bool := ((v.1 == (0 : Int)) && ((v.2 == (0 : Int)) && true))
    bif x247 then
      some (0 : Int)
    else
      let x248 : Int := (IntKind.wrap .u64 v.1)
      K (((1 : Int), (13835058055282163712 : Int)), (x248, v.2))

def K54_0 : Nat → (((Int × Int) × Int × Int) → Option Int)
  | 0 => (fun _ => none)
  | n + 1 => (B54_0_5 (K54_0 n))
def fuel54_0 (v : Int × Int) : Nat := 1000
def F54_0 (v : Int × Int) : Option Int := E54_0 (K54_0 (fuel54_0 v)) v
noncomputable def k54_0 : List (Known Try.prog E) := [Known.of envOk [1, 1] [.keep, .keep] v71_0 F71_0 w71_0 ok71_0, Known.of envOk [9, 9] [(.agg [.keep, .keep]), (.agg [.keep, .keep])] v72_0 F72_0 w72_0 ok72_0]
def s54_0_5 : List (Nat × Pat) := [(3, (.ptr 0 0 102 [.keep, .keep])), (4, .keep), (5, .keep)]
noncomputable def L54_0 (n id : Nat) (st : St G) : Option Int := match Nat.beq id 5 with | true => cutK Try.prog s54_0_5 [] c54_0_5.dec (K54_0 n) st | false => none
set_option maxRecDepth 100000 in
theorem e54_0 (n : Nat) (v : Int × Int) : ev Try.prog E (oracle k54_0) Try.f54.ntmps (fun x => mem x [5]) (L54_0 n) (finF Try.prog E Try.f54.results.toList [[]] w54_0.alts) 4000 [.code (Try.f54.body.getD .skip)] (argSt (v54_0.enc v)) = E54_0 (K54_0 n) v := by kernel_rfl
set_option maxRecDepth 100000 in
theorem b54_0_5 (n : Nat) (v : (Int × Int) × Int × Int) : evCut Try.prog E (oracle k54_0) false 54 Try.f54.ntmps (fun x => mem x [5]) (L54_0 n) (finF Try.prog E Try.f54.results.toList [[]] w54_0.alts) 4000 (todoAt (Try.f54.body.getD .skip) 5) (cutSt s54_0_5 (c54_0_5.enc v)) = B54_0_5 (K54_0 n) v := by kernel_rfl
theorem ok54_0 : FnOk Try.prog E 54 v54_0.enc F54_0 w54_0.enc :=
  fn_known (fn := Try.f54) (c := (Try.f54.body.getD .skip)) Try.func54 (by kernel_rfl) rfl envOk (oracle_ok k54_0) mixed v54_0 F54_0 w54_0 [] [[]] (by kernel_rfl) [5] 4000 L54_0 (by kernel_rfl)
    (List.forall_mem_cons.2 ⟨⟨_, [], s54_0_5, c54_0_5.dec, c54_0_5.enc, fun n => (K54_0 n), c54_0_5.ok, fun _ _ => rfl, fun _ => rfl, by kernel_rfl, fun n v _ h => (b54_0_5 n v).trans h⟩, fun _ h => (nomatch h)⟩) (fun v _ h => ⟨fuel54_0 v, (e54_0 _ v).trans h⟩) (fun _ => by kernel_rfl) (fun _ => by kernel_rfl) (fun _ _ => by kernel_rfl)
/- chicane/root.length -/
abbrev A48_0 : Type := List Int × Bool
abbrev R48_0 : Type := Int × Bool
def v48_0 : Pk G (List Int × Bool) := (pk (Sh.snd (Sh.cons (Sh.ptr 0 0) (Sh.fst (Sh.cons (Sh.ros 22) Sh.nil)))) (Sh.fst (Sh.hfix 0 29 (Sh.fst (Sh.cons Sh.bool Sh.nil)) Sh.hnil)))
def w48_0 : Wk G (Int × Bool) := (Wk.one [.keep] (pk (Sh.fst (Sh.cons (Sh.int .i64) Sh.nil)) (Sh.fst (Sh.hfix 0 29 (Sh.fst (Sh.cons Sh.bool Sh.nil)) Sh.hnil))))
def c48_0_4 : Pk G ((Bool × List Int × Int × Int) × (Int × Int) × Bool) := (pk (Sh.snd (Sh.cons (Sh.ptr 0 0) (Sh.snd (Sh.cons (Sh.ptr 1 0) (Sh.cons Sh.bool (Sh.cons (Sh.ros 22) (Sh.cons (Sh.int .i64) (Sh.fst (Sh.cons (Sh.int .i64) Sh.nil))))))))) (Sh.hfix 1 75 (Sh.cons (Sh.int .i64) (Sh.fst (Sh.cons (Sh.int .u64) Sh.nil))) (Sh.fst (Sh.hfix 0 29 (Sh.fst (Sh.cons Sh.bool Sh.nil)) Sh.hnil))))
def B48_0_4 (K : (((Bool × List Int × Int × Int) × (Int × Int) × Bool) → Option (Int × Bool))) (v : (Bool × List Int × Int × Int) × (Int × Int) × Bool) : Option (Int × Bool) :=
  bif (decide (v.1.2.2.2 < v.1.2.2.1)) then
    (rdx v.1.2.1 v.1.2.2.2).bind fun (x270 : Int) =>
    (F55_0 (x270, x270)).bind fun r271 =>
    (F51_0 (v.2.1, r271)).bind fun r272 =>
    bif (!r272.2) then
      (F54_0 r272.1).bind fun r273 =>
      bif (!r272.2) then
        some ((9223372036854775807 : Int), true)
      else
        bif (decide (r273 > (9223372036854775807 : Int))) then
          some ((9223372036854775807 : Int), true)
        else
          let x274 : Int := (IntKind.wrap .i64 r273)
          some (x274, v.2.2)
    else
      let x275 : Int := (IntKind.wrap .i64 (v.1.2.2.2 + (1 : Int)))
      K ((r272.2, (v.1.2.1, (v.1.2.2.1, x275))), (r272.1, v.2.2))
  else
    (F54_0 v.2.1).bind fun r276 =>
    bif (!v.1.1) then
      some ((9223372036854775807 : Int), true)
    else
      bif (decide (r276 > (9223372036854775807 : Int))) then
        some ((9223372036854775807 : Int), true)
      else
        let x277 : Int := (IntKind.wrap .i64 r276)
        some (x277, v.2.2)

def E48_0 (K : (((Bool × List Int × Int × Int) × (Int × Int) × Bool) → Option (Int × Bool))) (v : List Int × Bool) : Option (Int × Bool) :=
  K ((true, (v.1, (((v.1).length : Int), (0 : Int)))), (((0 : Int), (0 : Int)), v.2))

def K48_0 : Nat → (((Bool × List Int × Int × Int) × (Int × Int) × Bool) → Option (Int × Bool))
  | 0 => (fun _ => none)
  | n + 1 => (B48_0_4 (K48_0 n))
def fuel48_0 (v : List Int × Bool) : Nat := 1000
def F48_0 (v : List Int × Bool) : Option (Int × Bool) := E48_0 (K48_0 (fuel48_0 v)) v
noncomputable def k48_0 : List (Known Try.prog E) := [Known.of envOk [1, 1] [.keep, .keep] v55_0 F55_0 w55_0 ok55_0, Known.of envOk [9, 9] [(.agg [.keep, .keep]), (.agg [.keep, .keep])] v51_0 F51_0 w51_0 ok51_0, Known.of envOk [9] [(.agg [.keep, .keep])] v54_0 F54_0 w54_0 ok54_0]
def s48_0_4 : List (Nat × Pat) := [(0, (.ptr 0 0 29 [])), (5, (.ptr 1 0 75 [.keep, .keep])), (6, .keep), (10, (.ros 22)), (11, .keep), (12, .keep)]
noncomputable def L48_0 (n id : Nat) (st : St G) : Option (Int × Bool) := match Nat.beq id 4 with | true => cutK Try.prog s48_0_4 [(.ptr 0 0 29 [.keep])] c48_0_4.dec (K48_0 n) st | false => none
set_option maxRecDepth 100000 in
theorem e48_0 (n : Nat) (v : List Int × Bool) : ev Try.prog E (oracle k48_0) Try.f48.ntmps (fun x => mem x [4]) (L48_0 n) (finF Try.prog E Try.f48.results.toList [[(.ptr 0 0 29 [.keep])]] w48_0.alts) 4000 [.code (Try.f48.body.getD .skip)] (argSt (v48_0.enc v)) = E48_0 (K48_0 n) v := by kernel_rfl
set_option maxRecDepth 100000 in
theorem b48_0_4 (n : Nat) (v : (Bool × List Int × Int × Int) × (Int × Int) × Bool) : evCut Try.prog E (oracle k48_0) false 48 Try.f48.ntmps (fun x => mem x [4]) (L48_0 n) (finF Try.prog E Try.f48.results.toList [[(.ptr 0 0 29 [.keep])]] w48_0.alts) 4000 (todoAt (Try.f48.body.getD .skip) 4) (cutSt s48_0_4 (c48_0_4.enc v)) = B48_0_4 (K48_0 n) v := by kernel_rfl
theorem ok48_0 : FnOk Try.prog E 48 v48_0.enc F48_0 w48_0.enc :=
  fn_known (fn := Try.f48) (c := (Try.f48.body.getD .skip)) Try.func48 (by kernel_rfl) rfl envOk (oracle_ok k48_0) mixed v48_0 F48_0 w48_0 [(.ptr 0 0 29 [.keep])] [[(.ptr 0 0 29 [.keep])]] (by kernel_rfl) [4] 4000 L48_0 (by kernel_rfl)
    (List.forall_mem_cons.2 ⟨⟨_, [(.ptr 0 0 29 [.keep])], s48_0_4, c48_0_4.dec, c48_0_4.enc, fun n => (K48_0 n), c48_0_4.ok, fun _ _ => rfl, fun _ => rfl, by kernel_rfl, fun n v _ h => (b48_0_4 n v).trans h⟩, fun _ h => (nomatch h)⟩) (fun v _ h => ⟨fuel48_0 v, (e48_0 _ v).trans h⟩) (fun _ => by kernel_rfl) (fun _ => by kernel_rfl) (fun _ _ => by kernel_rfl)
/- chicane/root.Len2 -/
abbrev A22_0 : Type := (Int × Int) × Bool
abbrev R22_0 : Type := Int × Bool
def v22_0 : Pk G ((Int × Int) × Bool) := (pk (Sh.snd (Sh.cons (Sh.ptr 0 0) (Sh.cons (Sh.int .i64) (Sh.fst (Sh.cons (Sh.int .i64) Sh.nil))))) (Sh.fst (Sh.hfix 0 29 (Sh.fst (Sh.cons Sh.bool Sh.nil)) Sh.hnil)))
def w22_0 : Wk G (Int × Bool) := (Wk.one [.keep] (pk (Sh.fst (Sh.cons (Sh.int .i64) Sh.nil)) (Sh.fst (Sh.hfix 0 29 (Sh.fst (Sh.cons Sh.bool Sh.nil)) Sh.hnil))))
def F22_0 (v : (Int × Int) × Bool) : Option (Int × Bool) :=
  (F48_0 (([v.1.1, v.1.2] : List Int), v.2)).bind fun r280 =>
  some (r280)

noncomputable def k22_0 : List (Known Try.prog E) := [Known.of envOk [5, 7] [(.ptr 0 0 29 [.keep]), (.ros 22)] v48_0 F48_0 w48_0 ok48_0]
noncomputable def L22_0 (n id : Nat) (st : St G) : Option (Int × Bool) := none
set_option maxRecDepth 100000 in
theorem e22_0 (n : Nat) (v : (Int × Int) × Bool) : ev Try.prog E (oracle k22_0) Try.f22.ntmps (fun x => mem x []) (L22_0 n) (finF Try.prog E Try.f22.results.toList [[(.ptr 0 0 29 [.keep])]] w22_0.alts) 4000 [.code (Try.f22.body.getD .skip)] (argSt (v22_0.enc v)) = F22_0 v := by kernel_rfl
theorem ok22_0 : FnOk Try.prog E 22 v22_0.enc F22_0 w22_0.enc :=
  fn_known (fn := Try.f22) (c := (Try.f22.body.getD .skip)) Try.func22 (by kernel_rfl) rfl envOk (oracle_ok k22_0) mixed v22_0 F22_0 w22_0 [(.ptr 0 0 29 [.keep])] [[(.ptr 0 0 29 [.keep])]] (by kernel_rfl) [] 4000 L22_0 (by kernel_rfl)
    (fun _ h => nomatch h) (fun v _ h => ⟨0, (e22_0 _ v).trans h⟩) (fun _ => by kernel_rfl) (fun _ => by kernel_rfl) (fun _ _ => by kernel_rfl)
/- chicane/profile.far -/
abbrev A28_0 : Type := ((Int × Int) × Int × Int) × Bool
abbrev R28_0 : Type := Int × Bool
def v28_0 : Pk G (((Int × Int) × Int × Int) × Bool) := (pk (Sh.snd (Sh.cons (Sh.ptr 0 0) (Sh.cons (Sh.agg (Sh.cons (Sh.int .i64) (Sh.fst (Sh.cons (Sh.int .i64) Sh.nil)))) (Sh.fst (Sh.cons (Sh.agg (Sh.cons (Sh.int .i64) (Sh.fst (Sh.cons (Sh.int .i64) Sh.nil)))) Sh.nil))))) (Sh.fst (Sh.hfix 0 29 (Sh.fst (Sh.cons Sh.bool Sh.nil)) Sh.hnil)))
def w28_0 : Wk G (Int × Bool) := (Wk.one [.keep] (pk (Sh.fst (Sh.cons (Sh.int .i64) Sh.nil)) (Sh.fst (Sh.hfix 0 29 (Sh.fst (Sh.cons Sh.bool Sh.nil)) Sh.hnil))))
def F28_0 (v : ((Int × Int) × Int × Int) × Bool) : Option (Int × Bool) :=
  (F27_0 v).bind fun r284 =>
  (F22_0 r284).bind fun r285 =>
  some (r285)

noncomputable def k28_0 : List (Known Try.prog E) := [Known.of envOk [5, 9, 9] [(.ptr 0 0 29 [.keep]), (.agg [.keep, .keep]), (.agg [.keep, .keep])] v27_0 F27_0 w27_0 ok27_0, Known.of envOk [5, 1, 1] [(.ptr 0 0 29 [.keep]), .keep, .keep] v22_0 F22_0 w22_0 ok22_0]
noncomputable def L28_0 (n id : Nat) (st : St G) : Option (Int × Bool) := none
set_option maxRecDepth 100000 in
theorem e28_0 (n : Nat) (v : ((Int × Int) × Int × Int) × Bool) : ev Try.prog E (oracle k28_0) Try.f28.ntmps (fun x => mem x []) (L28_0 n) (finF Try.prog E Try.f28.results.toList [[(.ptr 0 0 29 [.keep])]] w28_0.alts) 4000 [.code (Try.f28.body.getD .skip)] (argSt (v28_0.enc v)) = F28_0 v := by kernel_rfl
theorem ok28_0 : FnOk Try.prog E 28 v28_0.enc F28_0 w28_0.enc :=
  fn_known (fn := Try.f28) (c := (Try.f28.body.getD .skip)) Try.func28 (by kernel_rfl) rfl envOk (oracle_ok k28_0) mixed v28_0 F28_0 w28_0 [(.ptr 0 0 29 [.keep])] [[(.ptr 0 0 29 [.keep])]] (by kernel_rfl) [] 4000 L28_0 (by kernel_rfl)
    (fun _ h => nomatch h) (fun v _ h => ⟨0, (e28_0 _ v).trans h⟩) (fun _ => by kernel_rfl) (fun _ => by kernel_rfl) (fun _ _ => by kernel_rfl)
/- (*chicane/fx.M).Add -/
abbrev A25_0 : Type := (Int × Int) × Bool
abbrev R25_0 : Type := Int × Bool
def v25_0 : Pk G ((Int × Int) × Bool) := (pk (Sh.snd (Sh.cons (Sh.ptr 0 0) (Sh.cons (Sh.int .i64) (Sh.fst (Sh.cons (Sh.int .i64) Sh.nil))))) (Sh.fst (Sh.hfix 0 29 (Sh.fst (Sh.cons Sh.bool Sh.nil)) Sh.hnil)))
def w25_0 : Wk G (Int × Bool) := (Wk.one [.keep] (pk (Sh.fst (Sh.cons (Sh.int .i64) Sh.nil)) (Sh.fst (Sh.hfix 0 29 (Sh.fst (Sh.cons Sh.bool Sh.nil)) Sh.hnil))))
def F25_0 (v : (Int × Int) × Bool) : Option (Int × Bool) :=
  (F50_0 v.1.1).bind fun r299 =>
  (F50_0 v.1.2).bind fun r300 =>
  (F51_0 (r299, r300)).bind fun r301 =>
  (F52_0 (r301.1, v.2)).bind fun r302 =>
  some (r302)

noncomputable def k25_0 : List (Known Try.prog E) := [Known.of envOk [1] [.keep] v50_0 F50_0 w50_0 ok50_0, Known.of envOk [9, 9] [(.agg [.keep, .keep]), (.agg [.keep, .keep])] v51_0 F51_0 w51_0 ok51_0, Known.of envOk [9, 153] [(.agg [.keep, .keep]), (.fn (.func 53) [(.ptr 0 0 29 [.keep])] [])] v52_0 F52_0 w52_0 ok52_0]
noncomputable def L25_0 (n id : Nat) (st : St G) : Option (Int × Bool) := none
set_option maxRecDepth 100000 in
theorem e25_0 (n : Nat) (v : (Int × Int) × Bool) : ev Try.prog E (oracle k25_0) Try.f25.ntmps (fun x => mem x []) (L25_0 n) (finF Try.prog E Try.f25.results.toList [[(.ptr 0 0 29 [.keep])]] w25_0.alts) 4000 [.code (Try.f25.body.getD .skip)] (argSt (v25_0.enc v)) = F25_0 v := by kernel_rfl
theorem ok25_0 : FnOk Try.prog E 25 v25_0.enc F25_0 w25_0.enc :=
  fn_known (fn := Try.f25) (c := (Try.f25.body.getD .skip)) Try.func25 (by kernel_rfl) rfl envOk (oracle_ok k25_0) mixed v25_0 F25_0 w25_0 [(.ptr 0 0 29 [.keep])] [[(.ptr 0 0 29 [.keep])]] (by kernel_rfl) [] 4000 L25_0 (by kernel_rfl)
    (fun _ h => nomatch h) (fun v _ h => ⟨0, (e25_0 _ v).trans h⟩) (fun _ => by kernel_rfl) (fun _ => by kernel_rfl) (fun _ _ => by kernel_rfl)
/- (*chicane/fx.M).Neg -/
abbrev A58_0 : Type := Int × Bool
abbrev R58_0 : Type := Int × Bool
def v58_0 : Pk G (Int × Bool) := (pk (Sh.snd (Sh.cons (Sh.ptr 0 0) (Sh.fst (Sh.cons (Sh.int .i64) Sh.nil)))) (Sh.fst (Sh.hfix 0 29 (Sh.fst (Sh.cons Sh.bool Sh.nil)) Sh.hnil)))
def w58_0 : Wk G (Int × Bool) := (Wk.one [.keep] (pk (Sh.fst (Sh.cons (Sh.int .i64) Sh.nil)) (Sh.fst (Sh.hfix 0 29 (Sh.fst (Sh.cons Sh.bool Sh.nil)) Sh.hnil))))
def F58_0 (v : Int × Bool) : Option (Int × Bool) :=
  (F23_0 (((0 : Int), v.1), v.2)).bind fun r306 =>
  some (r306)

noncomputable def k58_0 : List (Known Try.prog E) := [Known.of envOk [5, 1, 1] [(.ptr 0 0 29 [.keep]), .keep, .keep] v23_0 F23_0 w23_0 ok23_0]
noncomputable def L58_0 (n id : Nat) (st : St G) : Option (Int × Bool) := none
set_option maxRecDepth 100000 in
theorem e58_0 (n : Nat) (v : Int × Bool) : ev Try.prog E (oracle k58_0) Try.f58.ntmps (fun x => mem x []) (L58_0 n) (finF Try.prog E Try.f58.results.toList [[(.ptr 0 0 29 [.keep])]] w58_0.alts) 4000 [.code (Try.f58.body.getD .skip)] (argSt (v58_0.enc v)) = F58_0 v := by kernel_rfl
theorem ok58_0 : FnOk Try.prog E 58 v58_0.enc F58_0 w58_0.enc :=
  fn_known (fn := Try.f58) (c := (Try.f58.body.getD .skip)) Try.func58 (by kernel_rfl) rfl envOk (oracle_ok k58_0) mixed v58_0 F58_0 w58_0 [(.ptr 0 0 29 [.keep])] [[(.ptr 0 0 29 [.keep])]] (by kernel_rfl) [] 4000 L58_0 (by kernel_rfl)
    (fun _ h => nomatch h) (fun v _ h => ⟨0, (e58_0 _ v).trans h⟩) (fun _ => by kernel_rfl) (fun _ => by kernel_rfl) (fun _ _ => by kernel_rfl)
/- (*chicane/fx.M).Abs -/
abbrev A30_0 : Type := Int × Bool
abbrev R30_0 : Type := Int × Bool
def v30_0 : Pk G (Int × Bool) := (pk (Sh.snd (Sh.cons (Sh.ptr 0 0) (Sh.fst (Sh.cons (Sh.int .i64) Sh.nil)))) (Sh.fst (Sh.hfix 0 29 (Sh.fst (Sh.cons Sh.bool Sh.nil)) Sh.hnil)))
def w30_0 : Wk G (Int × Bool) := (Wk.one [.keep] (pk (Sh.fst (Sh.cons (Sh.int .i64) Sh.nil)) (Sh.fst (Sh.hfix 0 29 (Sh.fst (Sh.cons Sh.bool Sh.nil)) Sh.hnil))))
def F30_0 (v : Int × Bool) : Option (Int × Bool) :=
  bif (decide (v.1 < (0 : Int))) then
    (F58_0 v).bind fun r309 =>
    some (r309)
  else
    some (v)

noncomputable def k30_0 : List (Known Try.prog E) := [Known.of envOk [5, 1] [(.ptr 0 0 29 [.keep]), .keep] v58_0 F58_0 w58_0 ok58_0]
noncomputable def L30_0 (n id : Nat) (st : St G) : Option (Int × Bool) := none
set_option maxRecDepth 100000 in
theorem e30_0 (n : Nat) (v : Int × Bool) : ev Try.prog E (oracle k30_0) Try.f30.ntmps (fun x => mem x []) (L30_0 n) (finF Try.prog E Try.f30.results.toList [[(.ptr 0 0 29 [.keep])]] w30_0.alts) 4000 [.code (Try.f30.body.getD .skip)] (argSt (v30_0.enc v)) = F30_0 v := by kernel_rfl
theorem ok30_0 : FnOk Try.prog E 30 v30_0.enc F30_0 w30_0.enc :=
  fn_known (fn := Try.f30) (c := (Try.f30.body.getD .skip)) Try.func30 (by kernel_rfl) rfl envOk (oracle_ok k30_0) mixed v30_0 F30_0 w30_0 [(.ptr 0 0 29 [.keep])] [[(.ptr 0 0 29 [.keep])]] (by kernel_rfl) [] 4000 L30_0 (by kernel_rfl)
    (fun _ h => nomatch h) (fun v _ h => ⟨0, (e30_0 _ v).trans h⟩) (fun _ => by kernel_rfl) (fun _ => by kernel_rfl) (fun _ _ => by kernel_rfl)
/- (*chicane/fx.M).nought -/
abbrev A56_0 : Type := Int × Bool
abbrev R56_0 : Type := Int × Bool
def v56_0 : Pk G (Int × Bool) := (pk (Sh.snd (Sh.cons (Sh.ptr 0 0) (Sh.fst (Sh.cons (Sh.int .i64) Sh.nil)))) (Sh.fst (Sh.hfix 0 29 (Sh.fst (Sh.cons Sh.bool Sh.nil)) Sh.hnil)))
def w56_0 : Wk G (Int × Bool) := (Wk.one [.keep] (pk (Sh.fst (Sh.cons (Sh.int .i64) Sh.nil)) (Sh.fst (Sh.hfix 0 29 (Sh.fst (Sh.cons Sh.bool Sh.nil)) Sh.hnil))))
def F56_0 (v : Int × Bool) : Option (Int × Bool) :=
  (F53_0 ((decide (v.1 < (0 : Int))), v.2)).bind fun r313 =>
  bif (v.1 == (0 : Int)) then
    some ((0 : Int), r313.2)
  else
    some (r313)

noncomputable def k56_0 : List (Known Try.prog E) := [Known.of envOk [5, 2] [(.ptr 0 0 29 [.keep]), .keep] v53_0 F53_0 w53_0 ok53_0]
noncomputable def L56_0 (n id : Nat) (st : St G) : Option (Int × Bool) := none
set_option maxRecDepth 100000 in
theorem e56_0 (n : Nat) (v : Int × Bool) : ev Try.prog E (oracle k56_0) Try.f56.ntmps (fun x => mem x []) (L56_0 n) (finF Try.prog E Try.f56.results.toList [[(.ptr 0 0 29 [.keep])]] w56_0.alts) 4000 [.code (Try.f56.body.getD .skip)] (argSt (v56_0.enc v)) = F56_0 v := by kernel_rfl
theorem ok56_0 : FnOk Try.prog E 56 v56_0.enc F56_0 w56_0.enc :=
  fn_known (fn := Try.f56) (c := (Try.f56.body.getD .skip)) Try.func56 (by kernel_rfl) rfl envOk (oracle_ok k56_0) mixed v56_0 F56_0 w56_0 [(.ptr 0 0 29 [.keep])] [[(.ptr 0 0 29 [.keep])]] (by kernel_rfl) [] 4000 L56_0 (by kernel_rfl)
    (fun _ h => nomatch h) (fun v _ h => ⟨0, (e56_0 _ v).trans h⟩) (fun _ => by kernel_rfl) (fun _ => by kernel_rfl) (fun _ _ => by kernel_rfl)
/- chicane/wide.sized -/
abbrev A73_0 : Type := Int × Int
abbrev R73_0 : Type := (Int × Int) × Bool
def v73_0 : Pk G (Int × Int) := (Pk.fst (pk (Sh.fst (Sh.cons (Sh.agg (Sh.cons (Sh.int .i64) (Sh.fst (Sh.cons (Sh.int .u64) Sh.nil)))) Sh.nil)) Sh.hnil))
def w73_0 : Wk G ((Int × Int) × Bool) := (Wk.one [(.agg [.keep, .keep]), .keep] (Pk.fst (pk (Sh.cons (Sh.agg (Sh.cons (Sh.int .u64) (Sh.fst (Sh.cons (Sh.int .u64) Sh.nil)))) (Sh.fst (Sh.cons Sh.bool Sh.nil))) Sh.hnil)))
def F73_0 (v : Int × Int) : Option ((Int × Int) × Bool) :=
  bif (decide (v.1 ≥ (0 : Int))) then
    let x326 : Int := (IntKind.wrap .u64 v.1)
    some ((x326, v.2), false)
  else
    (F69_x ((0 : Int), (v.2, (0 : Int)))).bind fun r327 =>
    let x328 : Int := (IntKind.wrap .u64 v.1)
    (F69_x ((0 : Int), (x328, r327.2))).bind fun r329 =>
    some ((r329.1, r327.1), true)

noncomputable def k73_0 : List (Known Try.prog E) := [Known.of envOk [1, 1, 1] [.keep, .keep, .keep] v69_x F69_x w69_x ok69_x]
noncomputable def L73_0 (n id : Nat) (st : St G) : Option ((Int × Int) × Bool) := none
set_option maxRecDepth 100000 in
theorem e73_0 (n : Nat) (v : Int × Int) : ev Try.prog E (oracle k73_0) Try.f73.ntmps (fun x => mem x []) (L73_0 n) (finF Try.prog E Try.f73.results.toList [[]] w73_0.alts) 4000 [.code (Try.f73.body.getD .skip)] (argSt (v73_0.enc v)) = F73_0 v := by kernel_rfl
theorem ok73_0 : FnOk Try.prog E 73 v73_0.enc F73_0 w73_0.enc :=
  fn_known (fn := Try.f73) (c := (Try.f73.body.getD .skip)) Try.func73 (by kernel_rfl) rfl envOk (oracle_ok k73_0) mixed v73_0 F73_0 w73_0 [] [[]] (by kernel_rfl) [] 4000 L73_0 (by kernel_rfl)
    (fun _ h => nomatch h) (fun v _ h => ⟨0, (e73_0 _ v).trans h⟩) (fun _ => by kernel_rfl) (fun _ => by kernel_rfl) (fun _ _ => by kernel_rfl)
/- math/bits.Len64 -/
abbrev A83_0 : Type := Int
abbrev R83_0 : Type := Int
def v83_0 : Pk G Int := (Pk.fst (pk (Sh.fst (Sh.cons (Sh.int .u64) Sh.nil)) Sh.hnil))
def w83_0 : Wk G Int := (Wk.one [.keep] (Pk.fst (pk (Sh.fst (Sh.cons (Sh.int .i64) Sh.nil)) Sh.hnil)))
def F83_0 (v : Int) : Option Int :=
  bif (decide (v ≥ (4294967296 : Int))) then
    let x413 : Int := (Int.fdiv v (2 ^ 32))
    bif (decide (x413 ≥ (65536 : Int))) then
      let x414 : Int := (Int.fdiv x413 (2 ^ 16))
      bif (decide (x414 ≥ (256 : Int))) then
        let x415 : Int := (Int.fdiv x414 (2 ^ 8))
        let x416 : Int := (IntKind.wrap .u8 x415)
        (rdb sc0 x416).bind fun (x417 : UInt8) =>
        let x418 : Int := (IntKind.wrap .i64 (x417.toNat : Int))
        let x419 : Int := (IntKind.wrap .i64 ((56 : Int) + x418))
        some (x419)
      else
        let x420 : Int := (IntKind.wrap .u8 x414)
        (rdb sc0 x420).bind fun (x421 : UInt8) =>
        let x422 : Int := (IntKind.wrap .i64 (x421.toNat : Int))
        let x423 : Int := (IntKind.wrap .i64 ((48 : Int) + x422))
        some (x423)
    else
      bif (decide (x413 ≥ (256 : Int))) then
        let x424 : Int := (Int.fdiv x413 (2 ^ 8))
        let x425 : Int := (IntKind.wrap .u8 x424)
        (rdb sc0 x425).bind fun (x426 : UInt8) =>
        let x427 : Int := (IntKind.wrap .i64 (x426.toNat : Int))
        let x428 : Int := (IntKind.wrap .i64 ((40 : Int) + x427))
        some (x428)
      else
        let x429 : Int := (IntKind.wrap .u8 x413)
        (rdb sc0 x429).bind fun (x430 : UInt8) =>
        let x431 : Int := (IntKind.wrap .i64 (x430.toNat : Int))
        let x432 : Int := (IntKind.wrap .i64 ((32 : Int) + x431))
        some (x432)
  else
    bif (decide (v ≥ (65536 : Int))) then
      let x433 : Int := (Int.fdiv v (2 ^ 16))
      bif (decide (x433 ≥ (256 : Int))) then
        let x434 : Int := (Int.fdiv x433 (2 ^ 8))
        let x435 : Int := (IntKind.wrap .u8 x434)
        (rdb sc0 x435).bind fun (x436 : UInt8) =>
        let x437 : Int := (IntKind.wrap .i64 (x436.toNat : Int))
        let x438 : Int := (IntKind.wrap .i64 ((24 : Int) + x437))
        some (x438)
      else
        let x439 : Int := (IntKind.wrap .u8 x433)
        (rdb sc0 x439).bind fun (x440 : UInt8) =>
        let x441 : Int := (IntKind.wrap .i64 (x440.toNat : Int))
        let x442 : Int := (IntKind.wrap .i64 ((16 : Int) + x441))
        some (x442)
    else
      bif (decide (v ≥ (256 : Int))) then
        let x443 : Int := (Int.fdiv v (2 ^ 8))
        let x444 : Int := (IntKind.wrap .u8 x443)
        (rdb sc0 x444).bind fun (x445 : UInt8) =>
        let x446 : Int := (IntKind.wrap .i64 (x445.toNat : Int))
        let x447 : Int := (IntKind.wrap .i64 ((8 : Int) + x446))
        some (x447)
      else
        let x448 : Int := (IntKind.wrap .u8 v)
        (rdb sc0 x448).bind fun (x449 : UInt8) =>
        let x450 : Int := (IntKind.wrap .i64 (x449.toNat : Int))
        let x451 : Int := (IntKind.wrap .i64 ((0 : Int) + x450))
        some (x451)

noncomputable def k83_0 : List (Known Try.prog E) := []
noncomputable def L83_0 (n id : Nat) (st : St G) : Option Int := none
set_option maxRecDepth 100000 in
theorem e83_0 (n : Nat) (v : Int) : ev Try.prog E (oracle k83_0) Try.f83.ntmps (fun x => mem x []) (L83_0 n) (finF Try.prog E Try.f83.results.toList [[]] w83_0.alts) 4000 [.code (Try.f83.body.getD .skip)] (argSt (v83_0.enc v)) = F83_0 v := by kernel_rfl
theorem ok83_0 : FnOk Try.prog E 83 v83_0.enc F83_0 w83_0.enc :=
  fn_known (fn := Try.f83) (c := (Try.f83.body.getD .skip)) Try.func83 (by kernel_rfl) rfl envOk (oracle_ok k83_0) mixed v83_0 F83_0 w83_0 [] [[]] (by kernel_rfl) [] 4000 L83_0 (by kernel_rfl)
    (fun _ h => nomatch h) (fun v _ h => ⟨0, (e83_0 _ v).trans h⟩) (fun _ => by kernel_rfl) (fun _ => by kernel_rfl) (fun _ _ => by kernel_rfl)
/- math/bits.LeadingZeros64 -/
abbrev A81_0 : Type := Int
abbrev R81_0 : Type := Int
def v81_0 : Pk G Int := (Pk.fst (pk (Sh.fst (Sh.cons (Sh.int .u64) Sh.nil)) Sh.hnil))
def w81_0 : Wk G Int := (Wk.one [.keep] (Pk.fst (pk (Sh.fst (Sh.cons (Sh.int .i64) Sh.nil)) Sh.hnil)))
def F81_0 (v : Int) : Option Int :=
  (F83_0 v).bind fun r456 =>
  let x457 : Int := (IntKind.wrap .i64 ((64 : Int) - r456))
  some (x457)

noncomputable def k81_0 : List (Known Try.prog E) := [Known.of envOk [1] [.keep] v83_0 F83_0 w83_0 ok83_0]
noncomputable def L81_0 (n id : Nat) (st : St G) : Option Int := none
set_option maxRecDepth 100000 in
theorem e81_0 (n : Nat) (v : Int) : ev Try.prog E (oracle k81_0) Try.f81.ntmps (fun x => mem x []) (L81_0 n) (finF Try.prog E Try.f81.results.toList [[]] w81_0.alts) 4000 [.code (Try.f81.body.getD .skip)] (argSt (v81_0.enc v)) = F81_0 v := by kernel_rfl
theorem ok81_0 : FnOk Try.prog E 81 v81_0.enc F81_0 w81_0.enc :=
  fn_known (fn := Try.f81) (c := (Try.f81.body.getD .skip)) Try.func81 (by kernel_rfl) rfl envOk (oracle_ok k81_0) mixed v81_0 F81_0 w81_0 [] [[]] (by kernel_rfl) [] 4000 L81_0 (by kernel_rfl)
    (fun _ h => nomatch h) (fun v _ h => ⟨0, (e81_0 _ v).trans h⟩) (fun _ => by kernel_rfl) (fun _ => by kernel_rfl) (fun _ _ => by kernel_rfl)
/- math/bits.Div64 -/
abbrev A74_0 : Type := Int × Int × Int
abbrev R74_0 : Type := Int × Int
def v74_0 : Pk G (Int × Int × Int) := (Pk.fst (pk (Sh.cons (Sh.int .u64) (Sh.cons (Sh.int .u64) (Sh.fst (Sh.cons (Sh.int .u64) Sh.nil)))) Sh.hnil))
def w74_0 : Wk G (Int × Int) := (Wk.one [.keep, .keep] (Pk.fst (pk (Sh.cons (Sh.int .u64) (Sh.fst (Sh.cons (Sh.int .u64) Sh.nil))) Sh.hnil)))
def c74_0_17 : Pk G (Int × Int × Int × Int × Int × Int × Int × Int × Int) := (Pk.fst (pk (Sh.cons (Sh.int .u64) (Sh.cons (Sh.int .u64) (Sh.cons (Sh.int .u64) (Sh.cons (Sh.int .u64) (Sh.cons (Sh.int .u64) (Sh.cons (Sh.int .u64) (Sh.cons (Sh.int .u64) (Sh.cons (Sh.int .u64) (Sh.fst (Sh.cons (Sh.int .u64) Sh.nil)))))))))) Sh.hnil))
def c74_0_24 : Pk G (Int × Int × Int × Int × Int × Int × Int × Int × Int) := (Pk.fst (pk (Sh.cons (Sh.int .u64) (Sh.cons (Sh.int .u64) (Sh.cons (Sh.int .u64) (Sh.cons (Sh.int .u64) (Sh.cons (Sh.int .u64) (Sh.cons (Sh.int .u64) (Sh.cons (Sh.int .u64) (Sh.cons (Sh.int .u64) (Sh.fst (Sh.cons (Sh.int .u64) Sh.nil)))))))))) Sh.hnil))
def B74_0_17 (K : ((Int × Int × Int × Int × Int × Int × Int × Int × Int) → Option (Int × Int)) × ((Int × Int × Int × Int × Int × Int × Int × Int × Int) → Option (Int × Int))) (v : Int × Int × Int × Int × Int × Int × Int × Int × Int) : Option (Int × Int) :=
  bif (decide (v.2.2.2.2.2.2.2.1 ≥ (4294967296 : Int))) then
    let x752 : Int := (IntKind.wrap .u64 (v.2.2.2.2.2.2.2.1 - (1 : Int)))
    let x753 : Int := (IntKind.wrap .u64 (v.2.2.2.2.2.2.2.2 + v.2.2.1))
    bif (decide (x753 ≥ (4294967296 : Int))) then
      let x754 : Int := (IntKind.wrap .u64 (v.2.2.2.2.1 * (4294967296 : Int)))
      let x755 : Int := (IntKind.wrap .u64 (x754 + v.2.2.2.2.2.1))
      let x756 : Int := (IntKind.wrap .u64 (x752 * v.1))
      let x757 : Int := (IntKind.wrap .u64 (x755 - x756))
      (chk (v.2.2.1 != 0)).bind fun _ =>
      let x758 : Int := (IntKind.wrap .u64 (Int.tdiv x757 v.2.2.1))
      let x759 : Int := (IntKind.wrap .u64 (x758 * v.2.2.1))
      let x760 : Int := (IntKind.wrap .u64 (x757 - x759))
      K.2 (v.1, (v.2.1, (v.2.2.1, (v.2.2.2.1, (v.2.2.2.2.2.2.1, (x752, (x760, (x757, x758))))))))
    else
      K.1 (v.1, (v.2.1, (v.2.2.1, (v.2.2.2.1, (v.2.2.2.2.1, (v.2.2.2.2.2.1, (v.2.2.2.2.2.2.1, (x752, x753))))))))
  else
    let x761 : Int := (IntKind.wrap .u64 (v.2.2.2.2.2.2.2.1 * v.2.2.2.1))
    let x762 : Int := (IntKind.wrap .u64 ((4294967296 : Int) * v.2.2.2.2.2.2.2.2))
    let x763 : Int := (IntKind.wrap .u64 (x762 + v.2.2.2.2.2.1))
    bif (decide (x761 > x763)) then
      let x764 : Int := (IntKind.wrap .u64 (v.2.2.2.2.2.2.2.1 - (1 : Int)))
      let x765 : Int := (IntKind.wrap .u64 (v.2.2.2.2.2.2.2.2 + v.2.2.1))
      bif (decide (x765 ≥ (4294967296 : Int))) then
        let x766 : Int := (IntKind.wrap .u64 (v.2.2.2.2.1 * (4294967296 : Int)))
        let x767 : Int := (IntKind.wrap .u64 (x766 + v.2.2.2.2.2.1))
        let x768 : Int := (IntKind.wrap .u64 (x764 * v.1))
        let x769 : Int := (IntKind.wrap .u64 (x767 - x768))
        (chk (v.2.2.1 != 0)).bind fun _ =>
        let x770 : Int := (IntKind.wrap .u64 (Int.tdiv x769 v.2.2.1))
        let x771 : Int := (IntKind.wrap .u64 (x770 * v.2.2.1))
        let x772 : Int := (IntKind.wrap .u64 (x769 - x771))
        K.2 (v.1, (v.2.1, (v.2.2.1, (v.2.2.2.1, (v.2.2.2.2.2.2.1, (x764, (x772, (x769, x770))))))))
      else
        K.1 (v.1, (v.2.1, (v.2.2.1, (v.2.2.2.1, (v.2.2.2.2.1, (v.2.2.2.2.2.1, (v.2.2.2.2.2.2.1, (x764, x765))))))))
    else
      let x773 : Int := (IntKind.wrap .u64 (v.2.2.2.2.1 * (4294967296 : Int)))
      let x774 : Int := (IntKind.wrap .u64 (x773 + v.2.2.2.2.2.1))
      let x775 : Int := (IntKind.wrap .u64 (v.2.2.2.2.2.2.2.1 * v.1))
      let x776 : Int := (IntKind.wrap .u64 (x774 - x775))
      (chk (v.2.2.1 != 0)).bind fun _ =>
      let x777 : Int := (IntKind.wrap .u64 (Int.tdiv x776 v.2.2.1))
      let x778 : Int := (IntKind.wrap .u64 (x777 * v.2.2.1))
      let x779 : Int := (IntKind.wrap .u64 (x776 - x778))
      K.2 (v.1, (v.2.1, (v.2.2.1, (v.2.2.2.1, (v.2.2.2.2.2.2.1, (v.2.2.2.2.2.2.2.1, (x779, (x776, x777))))))))

def B74_0_24 (K : ((Int × Int × Int × Int × Int × Int × Int × Int × Int) → Option (Int × Int)) × ((Int × Int × Int × Int × Int × Int × Int × Int × Int) → Option (Int × Int))) (v : Int × Int × Int × Int × Int × Int × Int × Int × Int) : Option (Int × Int) :=
  bif (decide (v.2.2.2.2.2.2.2.2 ≥ (4294967296 : Int))) then
    let x780 : Int := (IntKind.wrap .u64 (v.2.2.2.2.2.2.2.2 - (1 : Int)))
    let x781 : Int := (IntKind.wrap .u64 (v.2.2.2.2.2.2.1 + v.2.2.1))
    bif (decide (x781 ≥ (4294967296 : Int))) then
      let x782 : Int := (IntKind.wrap .u64 (v.2.2.2.2.2.1 * (4294967296 : Int)))
      let x783 : Int := (IntKind.wrap .u64 (x782 + x780))
      let x784 : Int := (IntKind.wrap .u64 (v.2.2.2.2.2.2.2.1 * (4294967296 : Int)))
      let x785 : Int := (IntKind.wrap .u64 (x784 + v.2.2.2.2.1))
      let x786 : Int := (IntKind.wrap .u64 (x780 * v.1))
      let x787 : Int := (IntKind.wrap .u64 (x785 - x786))
      (chk (decide (0 ≤ v.2.1))).bind fun _ =>
      let x788 : Int := (Int.fdiv x787 (2 ^ min (v.2.1).toNat 64))
      some (x783, x788)
    else
      K.2 (v.1, (v.2.1, (v.2.2.1, (v.2.2.2.1, (v.2.2.2.2.1, (v.2.2.2.2.2.1, (x781, (v.2.2.2.2.2.2.2.1, x780))))))))
  else
    let x789 : Int := (IntKind.wrap .u64 (v.2.2.2.2.2.2.2.2 * v.2.2.2.1))
    let x790 : Int := (IntKind.wrap .u64 ((4294967296 : Int) * v.2.2.2.2.2.2.1))
    let x791 : Int := (IntKind.wrap .u64 (x790 + v.2.2.2.2.1))
    bif (decide (x789 > x791)) then
      let x792 : Int := (IntKind.wrap .u64 (v.2.2.2.2.2.2.2.2 - (1 : Int)))
      let x793 : Int := (IntKind.wrap .u64 (v.2.2.2.2.2.2.1 + v.2.2.1))
      bif (decide (x793 ≥ (4294967296 : Int))) then
        let x794 : Int := (IntKind.wrap .u64 (v.2.2.2.2.2.1 * (4294967296 : Int)))
        let x795 : Int := (IntKind.wrap .u64 (x794 + x792))
        let x796 : Int := (IntKind.wrap .u64 (v.2.2.2.2.2.2.2.1 * (4294967296 : Int)))
        let x797 : Int := (IntKind.wrap .u64 (x796 + v.2.2.2.2.1))
        let x798 : Int := (IntKind.wrap .u64 (x792 * v.1))
        let x799 : Int := (IntKind.wrap .u64 (x797 - x798))
        (chk (decide (0 ≤ v.2.1))).bind fun _ =>
        let x800 : Int := (Int.fdiv x799 (2 ^ min (v.2.1).toNat 64))
        some (x795, x800)
      else
        K.2 (v.1, (v.2.1, (v.2.2.1, (v.2.2.2.1, (v.2.2.2.2.1, (v.2.2.2.2.2.1, (x793, (v.2.2.2.2.2.2.2.1, x792))))))))
    else
      let x801 : Int := (IntKind.wrap .u64 (v.2.2.2.2.2.1 * (4294967296 : Int)))
      let x802 : Int := (IntKind.wrap .u64 (x801 + v.2.2.2.2.2.2.2.2))
      let x803 : Int := (IntKind.wrap .u64 (v.2.2.2.2.2.2.2.1 * (4294967296 : Int)))
      let x804 : Int := (IntKind.wrap .u64 (x803 + v.2.2.2.2.1))
      let x805 : Int := (IntKind.wrap .u64 (v.2.2.2.2.2.2.2.2 * v.1))
      let x806 : Int := (IntKind.wrap .u64 (x804 - x805))
      (chk (decide (0 ≤ v.2.1))).bind fun _ =>
      let x807 : Int := (Int.fdiv x806 (2 ^ min (v.2.1).toNat 64))
      some (x802, x807)

def E74_0 (K : ((Int × Int × Int × Int × Int × Int × Int × Int × Int) → Option (Int × Int)) × ((Int × Int × Int × Int × Int × Int × Int × Int × Int) → Option (Int × Int))) (v : Int × Int × Int) : Option (Int × Int) :=
  bif (v.2.2 == (0 : Int)) then
    none
  else
    bif (decide (v.2.2 ≤ v.1)) then
      none
    else
      bif (v.1 == (0 : Int)) then
        (chk (v.2.2 != 0)).bind fun _ =>
        let x735 : Int := (IntKind.wrap .u64 (Int.tdiv v.2.1 v.2.2))
        (chk (v.2.2 != 0)).bind fun _ =>
        let x736 : Int := (Int.tmod v.2.1 v.2.2)
        some (x735, x736)
      else
        (F81_0 v.2.2).bind fun r737 =>
        let x738 : Int := (IntKind.wrap .u64 r737)
        (chk (decide (0 ≤ x738))).bind fun _ =>
        let x739 : Int := (IntKind.wrap .u64 (v.2.2 * 2 ^ min (x738).toNat 64))
        let x740 : Int := (Int.fdiv x739 (2 ^ 32))
        let x741 : Int := (Go.bits .and .u64 x739 (4294967295 : Int))
        (chk (decide (0 ≤ x738))).bind fun _ =>
        let x742 : Int := (IntKind.wrap .u64 (v.1 * 2 ^ min (x738).toNat 64))
        let x743 : Int := (IntKind.wrap .u64 ((64 : Int) - x738))
        (chk (decide (0 ≤ x743))).bind fun _ =>
        let x744 : Int := (Int.fdiv v.2.1 (2 ^ min (x743).toNat 64))
        let x745 : Int := (Go.bits .or .u64 x742 x744)
        (chk (decide (0 ≤ x738))).bind fun _ =>
        let x746 : Int := (IntKind.wrap .u64 (v.2.1 * 2 ^ min (x738).toNat 64))
        let x747 : Int := (Int.fdiv x746 (2 ^ 32))
        let x748 : Int := (Go.bits .and .u64 x746 (4294967295 : Int))
        (chk (x740 != 0)).bind fun _ =>
        let x749 : Int := (IntKind.wrap .u64 (Int.tdiv x745 x740))
        let x750 : Int := (IntKind.wrap .u64 (x749 * x740))
        let x751 : Int := (IntKind.wrap .u64 (x745 - x750))
        K.1 (x739, (x738, (x740, (x741, (x745, (x747, (x748, (x749, x751))))))))

def K74_0 : Nat → ((Int × Int × Int × Int × Int × Int × Int × Int × Int) → Option (Int × Int)) × ((Int × Int × Int × Int × Int × Int × Int × Int × Int) → Option (Int × Int))
  | 0 => (fun _ => none, fun _ => none)
  | n + 1 => (B74_0_17 (K74_0 n), B74_0_24 (K74_0 n))
def fuel74_0 (v : Int × Int × Int) : Nat := 1000
def F74_0 (v : Int × Int × Int) : Option (Int × Int) := E74_0 (K74_0 (fuel74_0 v)) v
noncomputable def k74_0 : List (Known Try.prog E) := [Known.of envOk [1] [.keep] v81_0 F81_0 w81_0 ok81_0]
def s74_0_24 : List (Nat × Pat) := [(2, .keep), (8, .keep), (9, .keep), (10, .keep), (14, .keep), (15, .keep), (16, .keep), (17, .keep), (18, .keep)]
def s74_0_17 : List (Nat × Pat) := [(2, .keep), (8, .keep), (9, .keep), (10, .keep), (11, .keep), (13, .keep), (14, .keep), (15, .keep), (16, .keep)]
noncomputable def L74_0 (n id : Nat) (st : St G) : Option (Int × Int) := match Nat.beq id 17 with | true => cutK Try.prog s74_0_17 [] c74_0_17.dec (K74_0 n).1 st | false => match Nat.beq id 24 with | true => cutK Try.prog s74_0_24 [] c74_0_24.dec (K74_0 n).2 st | false => none
set_option maxRecDepth 100000 in
theorem e74_0 (n : Nat) (v : Int × Int × Int) : ev Try.prog E (oracle k74_0) Try.f74.ntmps (fun x => mem x [17, 24]) (L74_0 n) (finF Try.prog E Try.f74.results.toList [[]] w74_0.alts) 4000 [.code (Try.f74.body.getD .skip)] (argSt (v74_0.enc v)) = E74_0 (K74_0 n) v := by kernel_rfl
set_option maxRecDepth 100000 in
theorem b74_0_17 (n : Nat) (v : Int × Int × Int × Int × Int × Int × Int × Int × Int) : evCut Try.prog E (oracle k74_0) false 74 Try.f74.ntmps (fun x => mem x [17, 24]) (L74_0 n) (finF Try.prog E Try.f74.results.toList [[]] w74_0.alts) 4000 (todoAt (Try.f74.body.getD .skip) 17) (cutSt s74_0_17 (c74_0_17.enc v)) = B74_0_17 (K74_0 n) v := by kernel_rfl
set_option maxRecDepth 100000 in
theorem b74_0_24 (n : Nat) (v : Int × Int × Int × Int × Int × Int × Int × Int × Int) : evCut Try.prog E (oracle k74_0) false 74 Try.f74.ntmps (fun x => mem x [17, 24]) (L74_0 n) (finF Try.prog E Try.f74.results.toList [[]] w74_0.alts) 4000 (todoAt (Try.f74.body.getD .skip) 24) (cutSt s74_0_24 (c74_0_24.enc v)) = B74_0_24 (K74_0 n) v := by kernel_rfl
theorem ok74_0 : FnOk Try.prog E 74 v74_0.enc F74_0 w74_0.enc :=
  fn_known (fn := Try.f74) (c := (Try.f74.body.getD .skip)) Try.func74 (by kernel_rfl) rfl envOk (oracle_ok k74_0) mixed v74_0 F74_0 w74_0 [] [[]] (by kernel_rfl) [17, 24] 4000 L74_0 (by kernel_rfl)
    (List.forall_mem_cons.2 ⟨⟨_, [], s74_0_17, c74_0_17.dec, c74_0_17.enc, fun n => (K74_0 n).1, c74_0_17.ok, fun _ _ => rfl, fun _ => rfl, by kernel_rfl, fun n v _ h => (b74_0_17 n v).trans h⟩, List.forall_mem_cons.2 ⟨⟨_, [], s74_0_24, c74_0_24.dec, c74_0_24.enc, fun n => (K74_0 n).2, c74_0_24.ok, fun _ _ => rfl, fun _ => rfl, by kernel_rfl, fun n v _ h => (b74_0_24 n v).trans h⟩, fun _ h => (nomatch h)⟩⟩) (fun v _ h => ⟨fuel74_0 v, (e74_0 _ v).trans h⟩) (fun _ => by kernel_rfl) (fun _ => by kernel_rfl) (fun _ _ => by kernel_rfl)
/- chicane/wide.Div -/
abbrev A57_0 : Type := (Int × Int) × Int
abbrev R57_0 : Type := Int × Bool
def v57_0 : Pk G ((Int × Int) × Int) := (Pk.fst (pk (Sh.cons (Sh.agg (Sh.cons (Sh.int .i64) (Sh.fst (Sh.cons (Sh.int .u64) Sh.nil)))) (Sh.fst (Sh.cons (Sh.int .i64) Sh.nil))) Sh.hnil))
def w57_0 : Wk G (Int × Bool) := (Wk.one [.keep, .keep] (Pk.fst (pk (Sh.cons (Sh.int .i64) (Sh.fst (Sh.cons Sh.bool Sh.nil))) Sh.hnil)))
def F57_0 (v : (Int × Int) × Int) : Option (Int × Bool) :=
  (F73_0 v.1).bind fun r931 =>
  let x932 : Int := (IntKind.wrap .u64 v.2)
  bif (decide (v.2 < (0 : Int))) then
    let x933 : Int := (IntKind.wrap .u64 (0 - x932))
    bif (decide (r931.1.1 ≥ x933)) then
      some ((0 : Int), false)
    else
      (F74_0 (r931.1.1, (r931.1.2, x933))).bind fun r934 =>
      let x935 : Int := (IntKind.wrap .u64 (x933 - r934.2))
      bif (decide (r934.2 > x935)) then
        bif (decide (r934.2 > (0 : Int))) then
          let x936 : Int := (IntKind.wrap .u64 (r934.1 + (1 : Int)))
          bif (x936 == (0 : Int)) then
            some ((0 : Int), false)
          else
            bif (!r931.2) then
              bif (decide (x936 ≤ (9223372036854775808 : Int))) then
                let x937 : Int := (IntKind.wrap .u64 (0 - x936))
                let x938 : Int := (IntKind.wrap .i64 x937)
                some (x938, true)
              else
                bif (!(!r931.2)) then
                  bif (decide (x936 < (9223372036854775808 : Int))) then
                    let x939 : Int := (IntKind.wrap .i64 x936)
                    some (x939, true)
                  else
                    some ((0 : Int), false)
                else
                  some ((0 : Int), false)
            else
              bif (!(!r931.2)) then
                bif (decide (x936 < (9223372036854775808 : Int))) then
                  let x940 : Int := (IntKind.wrap .i64 x936)
                  some (x940, true)
                else
                  some ((0 : Int), false)
              else
                some ((0 : Int), false)
        else
          bif (!r931.2) then
            bif (decide (r934.1 ≤ (9223372036854775808 : Int))) then
              let x941 : Int := (IntKind.wrap .u64 (0 - r934.1))
              let x942 : Int := (IntKind.wrap .i64 x941)
              some (x942, true)
            else
              bif (!(!r931.2)) then
                bif (decide (r934.1 < (9223372036854775808 : Int))) then
                  let x943 : Int := (IntKind.wrap .i64 r934.1)
                  some (x943, true)
                else
                  some ((0 : Int), false)
              else
                some ((0 : Int), false)
          else
            bif (!(!r931.2)) then
              bif (decide (r934.1 < (9223372036854775808 : Int))) then
                let x944 : Int := (IntKind.wrap .i64 r934.1)
                some (x944, true)
              else
                some ((0 : Int), false)
            else
              some ((0 : Int), false)
      else
        let x945 : Int := (IntKind.wrap .u64 (x933 - r934.2))
        bif (r934.2 == x945) then
          let x946 : Int := (Go.bits .and .u64 r934.1 (1 : Int))
          bif (x946 == (1 : Int)) then
            bif (decide (r934.2 > (0 : Int))) then
              let x947 : Int := (IntKind.wrap .u64 (r934.1 + (1 : Int)))
              bif (x947 == (0 : Int)) then
                some ((0 : Int), false)
              else
                bif (!r931.2) then
                  bif (decide (x947 ≤ (9223372036854775808 : Int))) then
                    let x948 : Int := (IntKind.wrap .u64 (0 - x947))
                    let x949 : Int := (IntKind.wrap .i64 x948)
                    some (x949, true)
                  else
                    bif (!(!r931.2)) then
                      bif (decide (x947 < (9223372036854775808 : Int))) then
                        let x950 : Int := (IntKind.wrap .i64 x947)
                        some (x950, true)
                      else
                        some ((0 : Int), false)
                    else
                      some ((0 : Int), false)
                else
                  bif (!(!r931.2)) then
                    bif (decide (x947 < (9223372036854775808 : Int))) then
                      let x951 : Int := (IntKind.wrap .i64 x947)
                      some (x951, true)
                    else
                      some ((0 : Int), false)
                  else
                    some ((0 : Int), false)
            else
              bif (!r931.2) then
                bif (decide (r934.1 ≤ (9223372036854775808 : Int))) then
                  let x952 : Int := (IntKind.wrap .u64 (0 - r934.1))
                  let x953 : Int := (IntKind.wrap .i64 x952)
                  some (x953, true)
                else
                  bif (!(!r931.2)) then
                    bif (decide (r934.1 < (9223372036854775808 : Int))) then
                      let x954 : Int := (IntKind.wrap .i64 r934.1)
                      some (x954, true)
                    else
                      some ((0 : Int), false)
                  else
                    some ((0 : Int), false)
              else
                bif (!(!r931.2)) then
                  bif (decide (r934.1 < (9223372036854775808 : Int))) then
                    let x955 : Int := (IntKind.wrap .i64 r934.1)
                    some (x955, true)
                  else
                    some ((0 : Int), false)
                else
                  some ((0 : Int), false)
          else
            bif (!r931.2) then
              bif (decide (r934.1 ≤ (9223372036854775808 : Int))) then
                let x956 : Int := (IntKind.wrap .u64 (0 - r934.1))
                let x957 : Int := (IntKind.wrap .i64 x956)
                some (x957, true)
              else
                bif (!(!r931.2)) then
                  bif (decide (r934.1 < (9223372036854775808 : Int))) then
                    let x958 : Int := (IntKind.wrap .i64 r934.1)
                    some (x958, true)
                  else
                    some ((0 : Int), false)
                else
                  some ((0 : Int), false)
            else
              bif (!(!r931.2)) then
                bif (decide (r934.1 < (9223372036854775808 : Int))) then
                  let x959 : Int := (IntKind.wrap .i64 r934.1)
                  some (x959, true)
                else
                  some ((0 : Int), false)
              else
                some ((0 : Int), false)
        else
          bif (!r931.2) then
            bif (decide (r934.1 ≤ (9223372036854775808 : Int))) then
              let x960 : Int := (IntKind.wrap .u64 (0 - r934.1))
              let x961 : Int := (IntKind.wrap .i64 x960)
              some (x961, true)
            else
              bif (!(!r931.2)) then
                bif (decide (r934.1 < (9223372036854775808 : Int))) then
                  let x962 : Int := (IntKind.wrap .i64 r934.1)
                  some (x962, true)
                else
                  some ((0 : Int), false)
              else
                some ((0 : Int), false)
          else
            bif (!(!r931.2)) then
              bif (decide (r934.1 < (9223372036854775808 : Int))) then
                let x963 : Int := (IntKind.wrap .i64 r934.1)
                some (x963, true)
              else
                some ((0 : Int), false)
            else
              some ((0 : Int), false)
  else
    bif (decide (r931.1.1 ≥ x932)) then
      some ((0 : Int), false)
    else
      (F74_0 (r931.1.1, (r931.1.2, x932))).bind fun r964 =>
      let x965 : Int := (IntKind.wrap .u64 (x932 - r964.2))
      bif (decide (r964.2 > x965)) then
        bif (decide (r964.2 > (0 : Int))) then
          let x966 : Int := (IntKind.wrap .u64 (r964.1 + (1 : Int)))
          bif (x966 == (0 : Int)) then
            some ((0 : Int), false)
          else
            bif r931.2 then
              bif (decide (x966 ≤ (9223372036854775808 : Int))) then
                let x967 : Int := (IntKind.wrap .u64 (0 - x966))
                let x968 : Int := (IntKind.wrap .i64 x967)
                some (x968, true)
              else
                bif (!r931.2) then
                  bif (decide (x966 < (9223372036854775808 : Int))) then
                    let x969 : Int := (IntKind.wrap .i64 x966)
                    some (x969, true)
                  else
                    some ((0 : Int), false)
                else
                  some ((0 : Int), false)
            else
              bif (!r931.2) then
                bif (decide (x966 < (9223372036854775808 : Int))) then
                  let x970 : Int := (IntKind.wrap .i64 x966)
                  some (x970, true)
                else
                  some ((0 : Int), false)
              else
                some ((0 : Int), false)
        else
          bif r931.2 then
            bif (decide (r964.1 ≤ (9223372036854775808 : Int))) then
              let x971 : Int := (IntKind.wrap .u64 (0 - r964.1))
              let x972 : Int := (IntKind.wrap .i64 x971)
              some (x972, true)
            else
              bif (!r931.2) then
                bif (decide (r964.1 < (9223372036854775808 : Int))) then
                  let x973 : Int := (IntKind.wrap .i64 r964.1)
                  some (x973, true)
                else
                  some ((0 : Int), false)
              else
                some ((0 : Int), false)
          else
            bif (!r931.2) then
              bif (decide (r964.1 < (9223372036854775808 : Int))) then
                let x974 : Int := (IntKind.wrap .i64 r964.1)
                some (x974, true)
              else
                some ((0 : Int), false)
            else
              some ((0 : Int), false)
      else
        let x975 : Int := (IntKind.wrap .u64 (x932 - r964.2))
        bif (r964.2 == x975) then
          let x976 : Int := (Go.bits .and .u64 r964.1 (1 : Int))
          bif (x976 == (1 : Int)) then
            bif (decide (r964.2 > (0 : Int))) then
              let x977 : Int := (IntKind.wrap .u64 (r964.1 + (1 : Int)))
              bif (x977 == (0 : Int)) then
                some ((0 : Int), false)
              else
                bif r931.2 then
                  bif (decide (x977 ≤ (9223372036854775808 : Int))) then
                    let x978 : Int := (IntKind.wrap .u64 (0 - x977))
                    let x979 : Int := (IntKind.wrap .i64 x978)
                    some (x979, true)
                  else
                    bif (!r931.2) then
                      bif (decide (x977 < (9223372036854775808 : Int))) then
                        let x980 : Int := (IntKind.wrap .i64 x977)
                        some (x980, true)
                      else
                        some ((0 : Int), false)
                    else
                      some ((0 : Int), false)
                else
                  bif (!r931.2) then
                    bif (decide (x977 < (9223372036854775808 : Int))) then
                      let x981 : Int := (IntKind.wrap .i64 x977)
                      some (x981, true)
                    else
                      some ((0 : Int), false)
                  else
                    some ((0 : Int), false)
            else
              bif r931.2 then
                bif (decide (r964.1 ≤ (9223372036854775808 : Int))) then
                  let x982 : Int := (IntKind.wrap .u64 (0 - r964.1))
                  let x983 : Int := (IntKind.wrap .i64 x982)
                  some (x983, true)
                else
                  bif (!r931.2) then
                    bif (decide (r964.1 < (9223372036854775808 : Int))) then
                      let x984 : Int := (IntKind.wrap .i64 r964.1)
                      some (x984, true)
                    else
                      some ((0 : Int), false)
                  else
                    some ((0 : Int), false)
              else
                bif (!r931.2) then
                  bif (decide (r964.1 < (9223372036854775808 : Int))) then
                    let x985 : Int := (IntKind.wrap .i64 r964.1)
                    some (x985, true)
                  else
                    some ((0 : Int), false)
                else
                  some ((0 : Int), false)
          else
            bif r931.2 then
              bif (decide (r964.1 ≤ (9223372036854775808 : Int))) then
                let x986 : Int := (IntKind.wrap .u64 (0 - r964.1))
                let x987 : Int := (IntKind.wrap .i64 x986)
                some (x987, true)
              else
                bif (!r931.2) then
                  bif (decide (r964.1 < (9223372036854775808 : Int))) then
                    let x988 : Int := (IntKind.wrap .i64 r964.1)
                    some (x988, true)
                  else
                    some ((0 : Int), false)
                else
                  some ((0 : Int), false)
            else
              bif (!r931.2) then
                bif (decide (r964.1 < (9223372036854775808 : Int))) then
                  let x989 : Int := (IntKind.wrap .i64 r964.1)
                  some (x989, true)
                else
                  some ((0 : Int), false)
              else
                some ((0 : Int), false)
        else
          bif r931.2 then
            bif (decide (r964.1 ≤ (9223372036854775808 : Int))) then
              let x990 : Int := (IntKind.wrap .u64 (0 - r964.1))
              let x991 : Int := (IntKind.wrap .i64 x990)
              some (x991, true)
            else
              bif (!r931.2) then
                bif (decide (r964.1 < (9223372036854775808 : Int))) then
                  let x992 : Int := (IntKind.wrap .i64 r964.1)
                  some (x992, true)
                else
                  some ((0 : Int), false)
              else
                some ((0 : Int), false)
          else
            bif (!r931.2) then
              bif (decide (r964.1 < (9223372036854775808 : Int))) then
                let x993 : Int := (IntKind.wrap .i64 r964.1)
                some (x993, true)
              else
                some ((0 : Int), false)
            else
              some ((0 : Int), false)

noncomputable def k57_0 : List (Known Try.prog E) := [Known.of envOk [9] [(.agg [.keep, .keep])] v73_0 F73_0 w73_0 ok73_0, Known.of envOk [1, 1, 1] [.keep, .keep, .keep] v74_0 F74_0 w74_0 ok74_0]
noncomputable def L57_0 (n id : Nat) (st : St G) : Option (Int × Bool) := none
set_option maxRecDepth 100000 in
theorem e57_0 (n : Nat) (v : (Int × Int) × Int) : ev Try.prog E (oracle k57_0) Try.f57.ntmps (fun x => mem x []) (L57_0 n) (finF Try.prog E Try.f57.results.toList [[]] w57_0.alts) 4000 [.code (Try.f57.body.getD .skip)] (argSt (v57_0.enc v)) = F57_0 v := by kernel_rfl
theorem ok57_0 : FnOk Try.prog E 57 v57_0.enc F57_0 w57_0.enc :=
  fn_known (fn := Try.f57) (c := (Try.f57.body.getD .skip)) Try.func57 (by kernel_rfl) rfl envOk (oracle_ok k57_0) mixed v57_0 F57_0 w57_0 [] [[]] (by kernel_rfl) [] 4000 L57_0 (by kernel_rfl)
    (fun _ h => nomatch h) (fun v _ h => ⟨0, (e57_0 _ v).trans h⟩) (fun _ => by kernel_rfl) (fun _ => by kernel_rfl) (fun _ _ => by kernel_rfl)
/- (*chicane/fx.M).Div -/
abbrev A29_0 : Type := (Int × Int) × Bool
abbrev R29_0 : Type := Int × Bool
def v29_0 : Pk G ((Int × Int) × Bool) := (pk (Sh.snd (Sh.cons (Sh.ptr 0 0) (Sh.cons (Sh.int .i64) (Sh.fst (Sh.cons (Sh.int .i64) Sh.nil))))) (Sh.fst (Sh.hfix 0 29 (Sh.fst (Sh.cons Sh.bool Sh.nil)) Sh.hnil)))
def w29_0 : Wk G (Int × Bool) := (Wk.one [.keep] (pk (Sh.fst (Sh.cons (Sh.int .i64) Sh.nil)) (Sh.fst (Sh.hfix 0 29 (Sh.fst (Sh.cons Sh.bool Sh.nil)) Sh.hnil))))
def F29_0 (v : (Int × Int) × Bool) : Option (Int × Bool) :=
  bif (v.1.2 == (0 : Int)) then
    (F56_0 (v.1.1, v.2)).bind fun r1002 =>
    some (r1002)
  else
    let x1003 : Int := (Int.fdiv v.1.1 (2 ^ 32))
    let x1004 : Int := (IntKind.wrap .u64 v.1.1)
    let x1005 : Int := (IntKind.wrap .u64 (x1004 * 2 ^ 32))
    (F57_0 ((x1003, x1005), v.1.2)).bind fun r1006 =>
    bif (!r1006.2) then
      (F53_0 ((!((decide (v.1.1 < (0 : Int))) == (decide (v.1.2 < (0 : Int))))), v.2)).bind fun r1007 =>
      some (r1007)
    else
      some (r1006.1, v.2)

noncomputable def k29_0 : List (Known Try.prog E) := [Known.of envOk [5, 1] [(.ptr 0 0 29 [.keep]), .keep] v56_0 F56_0 w56_0 ok56_0, Known.of envOk [9, 1] [(.agg [.keep, .keep]), .keep] v57_0 F57_0 w57_0 ok57_0, Known.of envOk [5, 2] [(.ptr 0 0 29 [.keep]), .keep] v53_0 F53_0 w53_0 ok53_0]
noncomputable def L29_0 (n id : Nat) (st : St G) : Option (Int × Bool) := none
set_option maxRecDepth 100000 in
theorem e29_0 (n : Nat) (v : (Int × Int) × Bool) : ev Try.prog E (oracle k29_0) Try.f29.ntmps (fun x => mem x []) (L29_0 n) (finF Try.prog E Try.f29.results.toList [[(.ptr 0 0 29 [.keep])]] w29_0.alts) 4000 [.code (Try.f29.body.getD .skip)] (argSt (v29_0.enc v)) = F29_0 v := by kernel_rfl
theorem ok29_0 : FnOk Try.prog E 29 v29_0.enc F29_0 w29_0.enc :=
  fn_known (fn := Try.f29) (c := (Try.f29.body.getD .skip)) Try.func29 (by kernel_rfl) rfl envOk (oracle_ok k29_0) mixed v29_0 F29_0 w29_0 [(.ptr 0 0 29 [.keep])] [[(.ptr 0 0 29 [.keep])]] (by kernel_rfl) [] 4000 L29_0 (by kernel_rfl)
    (fun _ h => nomatch h) (fun v _ h => ⟨0, (e29_0 _ v).trans h⟩) (fun _ => by kernel_rfl) (fun _ => by kernel_rfl) (fun _ _ => by kernel_rfl)
/- chicane/profile.Bend -/
abbrev A8_0 : Type := ((Int × Int) × (Int × Int) × Int × Int) × Bool
abbrev R8_0 : Type := Int × Bool
def v8_0 : Pk G (((Int × Int) × (Int × Int) × Int × Int) × Bool) := (pk (Sh.snd (Sh.cons (Sh.ptr 0 0) (Sh.cons (Sh.agg (Sh.cons (Sh.int .i64) (Sh.fst (Sh.cons (Sh.int .i64) Sh.nil)))) (Sh.cons (Sh.agg (Sh.cons (Sh.int .i64) (Sh.fst (Sh.cons (Sh.int .i64) Sh.nil)))) (Sh.fst (Sh.cons (Sh.agg (Sh.cons (Sh.int .i64) (Sh.fst (Sh.cons (Sh.int .i64) Sh.nil)))) Sh.nil)))))) (Sh.fst (Sh.hfix 0 29 (Sh.fst (Sh.cons Sh.bool Sh.nil)) Sh.hnil)))
def w8_0 : Wk G (Int × Bool) := (Wk.one [.keep] (pk (Sh.fst (Sh.cons (Sh.int .i64) Sh.nil)) (Sh.fst (Sh.hfix 0 29 (Sh.fst (Sh.cons Sh.bool Sh.nil)) Sh.hnil))))
def F8_0 (v : ((Int × Int) × (Int × Int) × Int × Int) × Bool) : Option (Int × Bool) :=
  (F27_0 ((v.1.1, v.1.2.1), v.2)).bind fun r1022 =>
  (F27_0 (v.1.2, r1022.2)).bind fun r1023 =>
  (F26_0 ((r1022.1.1, r1023.1.2), r1023.2)).bind fun r1024 =>
  (F26_0 ((r1022.1.2, r1023.1.1), r1024.2)).bind fun r1025 =>
  (F23_0 ((r1024.1, r1025.1), r1025.2)).bind fun r1026 =>
  (F28_0 ((v.1.1, v.1.2.1), r1026.2)).bind fun r1027 =>
  (F28_0 (v.1.2, r1027.2)).bind fun r1028 =>
  (F26_0 ((r1027.1, r1028.1), r1028.2)).bind fun r1029 =>
  (F28_0 ((v.1.2.2, v.1.1), r1029.2)).bind fun r1030 =>
  (F26_0 ((r1029.1, r1030.1), r1030.2)).bind fun r1031 =>
  bif (r1031.1 == (0 : Int)) then
    some ((0 : Int), r1031.2)
  else
    (F25_0 ((r1026.1, r1026.1), r1031.2)).bind fun r1032 =>
    (F30_0 r1032).bind fun r1033 =>
    (F29_0 ((r1033.1, r1031.1), r1033.2)).bind fun r1034 =>
    some (r1034)

noncomputable def k8_0 : List (Known Try.prog E) := [Known.of envOk [5, 9, 9] [(.ptr 0 0 29 [.keep]), (.agg [.keep, .keep]), (.agg [.keep, .keep])] v27_0 F27_0 w27_0 ok27_0, Known.of envOk [5, 1, 1] [(.ptr 0 0 29 [.keep]), .keep, .keep] v26_0 F26_0 w26_0 ok26_0, Known.of envOk [5, 1, 1] [(.ptr 0 0 29 [.keep]), .keep, .keep] v23_0 F23_0 w23_0 ok23_0, Known.of envOk [5, 9, 9] [(.ptr 0 0 29 [.keep]), (.agg [.keep, .keep]), (.agg [.keep, .keep])] v28_0 F28_0 w28_0 ok28_0, Known.of envOk [5, 1, 1] [(.ptr 0 0 29 [.keep]), .keep, .keep] v25_0 F25_0 w25_0 ok25_0, Known.of envOk [5, 1] [(.ptr 0 0 29 [.keep]), .keep] v30_0 F30_0 w30_0 ok30_0, Known.of envOk [5, 1, 1] [(.ptr 0 0 29 [.keep]), .keep, .keep] v29_0 F29_0 w29_0 ok29_0]
noncomputable def L8_0 (n id : Nat) (st : St G) : Option (Int × Bool) := none
set_option maxRecDepth 100000 in
theorem e8_0 (n : Nat) (v : ((Int × Int) × (Int × Int) × Int × Int) × Bool) : ev Try.prog E (oracle k8_0) Try.f8.ntmps (fun x => mem x []) (L8_0 n) (finF Try.prog E Try.f8.results.toList [[(.ptr 0 0 29 [.keep])]] w8_0.alts) 4000 [.code (Try.f8.body.getD .skip)] (argSt (v8_0.enc v)) = F8_0 v := by kernel_rfl
theorem ok8_0 : FnOk Try.prog E 8 v8_0.enc F8_0 w8_0.enc :=
  fn_known (fn := Try.f8) (c := (Try.f8.body.getD .skip)) Try.func8 (by kernel_rfl) rfl envOk (oracle_ok k8_0) mixed v8_0 F8_0 w8_0 [(.ptr 0 0 29 [.keep])] [[(.ptr 0 0 29 [.keep])]] (by kernel_rfl) [] 4000 L8_0 (by kernel_rfl)
    (fun _ h => nomatch h) (fun v _ h => ⟨0, (e8_0 _ v).trans h⟩) (fun _ => by kernel_rfl) (fun _ => by kernel_rfl) (fun _ _ => by kernel_rfl)
/- (*chicane/chicaneref02.M).bound -/
abbrev A59_0 : Type := Bool × Bool
abbrev R59_0 : Type := Int × Bool
def v59_0 : Pk G (Bool × Bool) := (pk (Sh.snd (Sh.cons (Sh.ptr 0 0) (Sh.fst (Sh.cons Sh.bool Sh.nil)))) (Sh.fst (Sh.hfix 0 31 (Sh.fst (Sh.cons Sh.bool Sh.nil)) Sh.hnil)))
def w59_0 : Wk G (Int × Bool) := (Wk.one [.keep] (pk (Sh.fst (Sh.cons (Sh.int .i64) Sh.nil)) (Sh.fst (Sh.hfix 0 31 (Sh.fst (Sh.cons Sh.bool Sh.nil)) Sh.hnil))))
def F59_0 (v : Bool × Bool) : Option (Int × Bool) :=
  bif v.1 then
    some ((-9223372036854775808 : Int), true)
  else
    some ((9223372036854775807 : Int), true)

noncomputable def k59_0 : List (Known Try.prog E) := []
noncomputable def L59_0 (n id : Nat) (st : St G) : Option (Int × Bool) := none
set_option maxRecDepth 100000 in
theorem e59_0 (n : Nat) (v : Bool × Bool) : ev Try.prog E (oracle k59_0) Try.f59.ntmps (fun x => mem x []) (L59_0 n) (finF Try.prog E Try.f59.results.toList [[(.ptr 0 0 31 [.keep])]] w59_0.alts) 4000 [.code (Try.f59.body.getD .skip)] (argSt (v59_0.enc v)) = F59_0 v := by kernel_rfl
theorem ok59_0 : FnOk Try.prog E 59 v59_0.enc F59_0 w59_0.enc :=
  fn_known (fn := Try.f59) (c := (Try.f59.body.getD .skip)) Try.func59 (by kernel_rfl) rfl envOk (oracle_ok k59_0) mixed v59_0 F59_0 w59_0 [(.ptr 0 0 31 [.keep])] [[(.ptr 0 0 31 [.keep])]] (by kernel_rfl) [] 4000 L59_0 (by kernel_rfl)
    (fun _ h => nomatch h) (fun v _ h => ⟨0, (e59_0 _ v).trans h⟩) (fun _ => by kernel_rfl) (fun _ => by kernel_rfl) (fun _ _ => by kernel_rfl)
/- (*chicane/chicaneref02.M).Sub -/
abbrev A31_0 : Type := (Int × Int) × Bool
abbrev R31_0 : Type := Int × Bool
def v31_0 : Pk G ((Int × Int) × Bool) := (pk (Sh.snd (Sh.cons (Sh.ptr 0 0) (Sh.cons (Sh.int .i64) (Sh.fst (Sh.cons (Sh.int .i64) Sh.nil))))) (Sh.fst (Sh.hfix 0 31 (Sh.fst (Sh.cons Sh.bool Sh.nil)) Sh.hnil)))
def w31_0 : Wk G (Int × Bool) := (Wk.one [.keep] (pk (Sh.fst (Sh.cons (Sh.int .i64) Sh.nil)) (Sh.fst (Sh.hfix 0 31 (Sh.fst (Sh.cons Sh.bool Sh.nil)) Sh.hnil))))
def F31_0 (v : (Int × Int) × Bool) : Option (Int × Bool) :=
  bif (decide (v.1.2 < (0 : Int))) then
    let x1056 : Int := (IntKind.wrap .i64 ((9223372036854775807 : Int) + v.1.2))
    bif (decide (v.1.1 > x1056)) then
      (F59_0 (false, v.2)).bind fun r1057 =>
      some (r1057)
    else
      bif (decide (v.1.2 > (0 : Int))) then
        let x1058 : Int := (IntKind.wrap .i64 ((-9223372036854775808 : Int) + v.1.2))
        bif (decide (v.1.1 < x1058)) then
          (F59_0 (true, v.2)).bind fun r1059 =>
          some (r1059)
        else
          let x1060 : Int := (IntKind.wrap .i64 (v.1.1 - v.1.2))
          some (x1060, v.2)
      else
        let x1061 : Int := (IntKind.wrap .i64 (v.1.1 - v.1.2))
        some (x1061, v.2)
  else
    bif (decide (v.1.2 > (0 : Int))) then
      let x1062 : Int := (IntKind.wrap .i64 ((-9223372036854775808 : Int) + v.1.2))
      bif (decide (v.1.1 < x1062)) then
        (F59_0 (true, v.2)).bind fun r1063 =>
        some (r1063)
      else
        let x1064 : Int := (IntKind.wrap .i64 (v.1.1 - v.1.2))
        some (x1064, v.2)
    else
      let x1065 : Int := (IntKind.wrap .i64 (v.1.1 - v.1.2))
      some (x1065, v.2)

noncomputable def k31_0 : List (Known Try.prog E) := [Known.of envOk [5, 2] [(.ptr 0 0 31 [.keep]), .keep] v59_0 F59_0 w59_0 ok59_0]
noncomputable def L31_0 (n id : Nat) (st : St G) : Option (Int × Bool) := none
set_option maxRecDepth 100000 in
theorem e31_0 (n : Nat) (v : (Int × Int) × Bool) : ev Try.prog E (oracle k31_0) Try.f31.ntmps (fun x => mem x []) (L31_0 n) (finF Try.prog E Try.f31.results.toList [[(.ptr 0 0 31 [.keep])]] w31_0.alts) 4000 [.code (Try.f31.body.getD .skip)] (argSt (v31_0.enc v)) = F31_0 v := by kernel_rfl
theorem ok31_0 : FnOk Try.prog E 31 v31_0.enc F31_0 w31_0.enc :=
  fn_known (fn := Try.f31) (c := (Try.f31.body.getD .skip)) Try.func31 (by kernel_rfl) rfl envOk (oracle_ok k31_0) mixed v31_0 F31_0 w31_0 [(.ptr 0 0 31 [.keep])] [[(.ptr 0 0 31 [.keep])]] (by kernel_rfl) [] 4000 L31_0 (by kernel_rfl)
    (fun _ h => nomatch h) (fun v _ h => ⟨0, (e31_0 _ v).trans h⟩) (fun _ => by kernel_rfl) (fun _ => by kernel_rfl) (fun _ _ => by kernel_rfl)
/- chicane/chicaneref01.Size -/
abbrev A60_0 : Type := Int
abbrev R60_0 : Type := Int
def v60_0 : Pk G Int := (Pk.fst (pk (Sh.fst (Sh.cons (Sh.int .i64) Sh.nil)) Sh.hnil))
def w60_0 : Wk G Int := (Wk.one [.keep] (Pk.fst (pk (Sh.fst (Sh.cons (Sh.int .u64) Sh.nil)) Sh.hnil)))
def F60_0 (v : Int) : Option Int :=
  bif (decide (v < (0 : Int))) then
    let x1080 : Int := (IntKind.wrap .i64 (v + (1 : Int)))
    let x1081 : Int := (IntKind.wrap .i64 (0 - x1080))
    let x1082 : Int := (IntKind.wrap .u64 x1081)
    let x1083 : Int := (IntKind.wrap .u64 (x1082 + (1 : Int)))
    some (x1083)
  else
    let x1084 : Int := (IntKind.wrap .u64 v)
    some (x1084)

noncomputable def k60_0 : List (Known Try.prog E) := []
noncomputable def L60_0 (n id : Nat) (st : St G) : Option Int := none
set_option maxRecDepth 100000 in
theorem e60_0 (n : Nat) (v : Int) : ev Try.prog E (oracle k60_0) Try.f60.ntmps (fun x => mem x []) (L60_0 n) (finF Try.prog E Try.f60.results.toList [[]] w60_0.alts) 4000 [.code (Try.f60.body.getD .skip)] (argSt (v60_0.enc v)) = F60_0 v := by kernel_rfl
theorem ok60_0 : FnOk Try.prog E 60 v60_0.enc F60_0 w60_0.enc :=
  fn_known (fn := Try.f60) (c := (Try.f60.body.getD .skip)) Try.func60 (by kernel_rfl) rfl envOk (oracle_ok k60_0) mixed v60_0 F60_0 w60_0 [] [[]] (by kernel_rfl) [] 4000 L60_0 (by kernel_rfl)
    (fun _ h => nomatch h) (fun v _ h => ⟨0, (e60_0 _ v).trans h⟩) (fun _ => by kernel_rfl) (fun _ => by kernel_rfl) (fun _ _ => by kernel_rfl)
/- (*chicane/chicaneref02.M).signed -/
abbrev A61_0 : Type := (Bool × Int) × Bool
abbrev R61_0 : Type := Int × Bool
def v61_0 : Pk G ((Bool × Int) × Bool) := (pk (Sh.snd (Sh.cons (Sh.ptr 0 0) (Sh.cons Sh.bool (Sh.fst (Sh.cons (Sh.int .u64) Sh.nil))))) (Sh.fst (Sh.hfix 0 31 (Sh.fst (Sh.cons Sh.bool Sh.nil)) Sh.hnil)))
def w61_0 : Wk G (Int × Bool) := (Wk.one [.keep] (pk (Sh.fst (Sh.cons (Sh.int .i64) Sh.nil)) (Sh.fst (Sh.hfix 0 31 (Sh.fst (Sh.cons Sh.bool Sh.nil)) Sh.hnil))))
def F61_0 (v : (Bool × Int) × Bool) : Option (Int × Bool) :=
  bif v.1.1 then
    bif (v.1.2 == (9223372036854775808 : Int)) then
      some ((-9223372036854775808 : Int), v.2)
    else
      bif (decide (v.1.2 > (9223372036854775807 : Int))) then
        (F59_0 (v.1.1, v.2)).bind fun r1141 =>
        some (r1141)
      else
        bif v.1.1 then
          let x1142 : Int := (IntKind.wrap .i64 v.1.2)
          let x1143 : Int := (IntKind.wrap .i64 (0 - x1142))
          some (x1143, v.2)
        else
          let x1144 : Int := (IntKind.wrap .i64 v.1.2)
          some (x1144, v.2)
  else
    bif (decide (v.1.2 > (9223372036854775807 : Int))) then
      (F59_0 (v.1.1, v.2)).bind fun r1145 =>
      some (r1145)
    else
      bif v.1.1 then
        let x1146 : Int := (IntKind.wrap .i64 v.1.2)
        let x1147 : Int := (IntKind.wrap .i64 (0 - x1146))
        some (x1147, v.2)
      else
        let x1148 : Int := (IntKind.wrap .i64 v.1.2)
        some (x1148, v.2)

noncomputable def k61_0 : List (Known Try.prog E) := [Known.of envOk [5, 2] [(.ptr 0 0 31 [.keep]), .keep] v59_0 F59_0 w59_0 ok59_0]
noncomputable def L61_0 (n id : Nat) (st : St G) : Option (Int × Bool) := none
set_option maxRecDepth 100000 in
theorem e61_0 (n : Nat) (v : (Bool × Int) × Bool) : ev Try.prog E (oracle k61_0) Try.f61.ntmps (fun x => mem x []) (L61_0 n) (finF Try.prog E Try.f61.results.toList [[(.ptr 0 0 31 [.keep])]] w61_0.alts) 4000 [.code (Try.f61.body.getD .skip)] (argSt (v61_0.enc v)) = F61_0 v := by kernel_rfl
theorem ok61_0 : FnOk Try.prog E 61 v61_0.enc F61_0 w61_0.enc :=
  fn_known (fn := Try.f61) (c := (Try.f61.body.getD .skip)) Try.func61 (by kernel_rfl) rfl envOk (oracle_ok k61_0) mixed v61_0 F61_0 w61_0 [(.ptr 0 0 31 [.keep])] [[(.ptr 0 0 31 [.keep])]] (by kernel_rfl) [] 4000 L61_0 (by kernel_rfl)
    (fun _ h => nomatch h) (fun v _ h => ⟨0, (e61_0 _ v).trans h⟩) (fun _ => by kernel_rfl) (fun _ => by kernel_rfl) (fun _ _ => by kernel_rfl)
/- (*chicane/chicaneref02.M).Mul -/
abbrev A32_0 : Type := (Int × Int) × Bool
abbrev R32_0 : Type := Int × Bool
def v32_0 : Pk G ((Int × Int) × Bool) := (pk (Sh.snd (Sh.cons (Sh.ptr 0 0) (Sh.cons (Sh.int .i64) (Sh.fst (Sh.cons (Sh.int .i64) Sh.nil))))) (Sh.fst (Sh.hfix 0 31 (Sh.fst (Sh.cons Sh.bool Sh.nil)) Sh.hnil)))
def w32_0 : Wk G (Int × Bool) := (Wk.one [.keep] (pk (Sh.fst (Sh.cons (Sh.int .i64) Sh.nil)) (Sh.fst (Sh.hfix 0 31 (Sh.fst (Sh.cons Sh.bool Sh.nil)) Sh.hnil))))
def F32_0 (v : (Int × Int) × Bool) : Option (Int × Bool) :=
  (F60_0 v.1.1).bind fun r1217 =>
  (F60_0 v.1.2).bind fun r1218 =>
  let x1219 : Int := (IntKind.wrap .u64 (Int.tdiv r1217 (4294967296 : Int)))
  let x1220 : Int := (Int.tmod r1217 (4294967296 : Int))
  let x1221 : Int := (IntKind.wrap .u64 (Int.tdiv r1218 (4294967296 : Int)))
  let x1222 : Int := (Int.tmod r1218 (4294967296 : Int))
  let x1223 : Int := (IntKind.wrap .u64 (x1220 * x1222))
  let x1224 : Int := (Int.tmod x1223 (4294967296 : Int))
  let x1225 : Int := (IntKind.wrap .u64 (x1219 * x1221))
  bif (decide (x1225 ≥ (4294967296 : Int))) then
    (F59_0 ((!((decide (v.1.1 < (0 : Int))) == (decide (v.1.2 < (0 : Int))))), v.2)).bind fun r1226 =>
    some (r1226)
  else
    let x1227 : Int := (IntKind.wrap .u64 (x1219 * x1221))
    let x1228 : Int := (IntKind.wrap .u64 (x1227 * (4294967296 : Int)))
    let x1229 : Int := (IntKind.wrap .u64 (x1219 * x1222))
    let x1233 : Int := (IntKind.wrap .u64 (x1228 + x1229))
    bif (decide (x1233 < x1228)) then
      (F59_0 ((!((decide (v.1.1 < (0 : Int))) == (decide (v.1.2 < (0 : Int))))), v.2)).bind fun r1234 =>
      some (r1234)
    else
      let x1235 : Int := (IntKind.wrap .u64 (x1228 + x1229))
      let x1237 : Int := (IntKind.wrap .u64 (x1220 * x1221))
      let x1240 : Int := (IntKind.wrap .u64 (x1235 + x1237))
      bif (decide (x1240 < x1235)) then
        (F59_0 ((!((decide (v.1.1 < (0 : Int))) == (decide (v.1.2 < (0 : Int))))), v.2)).bind fun r1241 =>
        some (r1241)
      else
        let x1242 : Int := (IntKind.wrap .u64 (x1235 + x1237))
        let x1245 : Int := (IntKind.wrap .u64 (x1220 * x1222))
        let x1246 : Int := (IntKind.wrap .u64 (Int.tdiv x1245 (4294967296 : Int)))
        let x1247 : Int := (IntKind.wrap .u64 (x1242 + x1246))
        bif (decide (x1247 < x1242)) then
          (F59_0 ((!((decide (v.1.1 < (0 : Int))) == (decide (v.1.2 < (0 : Int))))), v.2)).bind fun r1248 =>
          some (r1248)
        else
          let x1249 : Int := (IntKind.wrap .u64 (x1242 + x1246))
          bif (decide (x1224 > (2147483648 : Int))) then
            let x1254 : Int := (IntKind.wrap .u64 (x1249 + (1 : Int)))
            bif (decide (x1254 < x1249)) then
              (F59_0 ((!((decide (v.1.1 < (0 : Int))) == (decide (v.1.2 < (0 : Int))))), v.2)).bind fun r1255 =>
              some (r1255)
            else
              let x1256 : Int := (IntKind.wrap .u64 (x1249 + (1 : Int)))
              (F61_0 (((!((decide (v.1.1 < (0 : Int))) == (decide (v.1.2 < (0 : Int))))), x1256), v.2)).bind fun r1257 =>
              some (r1257)
          else
            bif (x1224 == (2147483648 : Int)) then
              let x1258 : Int := (Int.tmod x1249 (2 : Int))
              bif (x1258 == (1 : Int)) then
                let x1259 : Int := (IntKind.wrap .u64 (x1249 + (1 : Int)))
                bif (decide (x1259 < x1249)) then
                  (F59_0 ((!((decide (v.1.1 < (0 : Int))) == (decide (v.1.2 < (0 : Int))))), v.2)).bind fun r1260 =>
                  some (r1260)
                else
                  let x1261 : Int := (IntKind.wrap .u64 (x1249 + (1 : Int)))
                  (F61_0 (((!((decide (v.1.1 < (0 : Int))) == (decide (v.1.2 < (0 : Int))))), x1261), v.2)).bind fun r1262 =>
                  some (r1262)
              else
                let x1263 : Int := (IntKind.wrap .u64 (x1249 + (0 : Int)))
                bif (decide (x1263 < x1249)) then
                  (F59_0 ((!((decide (v.1.1 < (0 : Int))) == (decide (v.1.2 < (0 : Int))))), v.2)).bind fun r1264 =>
                  some (r1264)
                else
                  let x1265 : Int := (IntKind.wrap .u64 (x1249 + (0 : Int)))
                  (F61_0 (((!((decide (v.1.1 < (0 : Int))) == (decide (v.1.2 < (0 : Int))))), x1265), v.2)).bind fun r1266 =>
                  some (r1266)
            else
              let x1267 : Int := (IntKind.wrap .u64 (x1249 + (0 : Int)))
              bif (decide (x1267 < x1249)) then
                (F59_0 ((!((decide (v.1.1 < (0 : Int))) == (decide (v.1.2 < (0 : Int))))), v.2)).bind fun r1268 =>
                some (r1268)
              else
                let x1269 : Int := (IntKind.wrap .u64 (x1249 + (0 : Int)))
                (F61_0 (((!((decide (v.1.1 < (0 : Int))) == (decide (v.1.2 < (0 : Int))))), x1269), v.2)).bind fun r1270 =>
                some (r1270)

noncomputable def k32_0 : List (Known Try.prog E) := [Known.of envOk [1] [.keep] v60_0 F60_0 w60_0 ok60_0, Known.of envOk [5, 2] [(.ptr 0 0 31 [.keep]), .keep] v59_0 F59_0 w59_0 ok59_0, Known.of envOk [5, 2, 1] [(.ptr 0 0 31 [.keep]), .keep, .keep] v61_0 F61_0 w61_0 ok61_0]
noncomputable def L32_0 (n id : Nat) (st : St G) : Option (Int × Bool) := none
set_option maxRecDepth 100000 in
theorem e32_0 (n : Nat) (v : (Int × Int) × Bool) : ev Try.prog E (oracle k32_0) Try.f32.ntmps (fun x => mem x []) (L32_0 n) (finF Try.prog E Try.f32.results.toList [[(.ptr 0 0 31 [.keep])]] w32_0.alts) 4000 [.code (Try.f32.body.getD .skip)] (argSt (v32_0.enc v)) = F32_0 v := by kernel_rfl
theorem ok32_0 : FnOk Try.prog E 32 v32_0.enc F32_0 w32_0.enc :=
  fn_known (fn := Try.f32) (c := (Try.f32.body.getD .skip)) Try.func32 (by kernel_rfl) rfl envOk (oracle_ok k32_0) mixed v32_0 F32_0 w32_0 [(.ptr 0 0 31 [.keep])] [[(.ptr 0 0 31 [.keep])]] (by kernel_rfl) [] 4000 L32_0 (by kernel_rfl)
    (fun _ h => nomatch h) (fun v _ h => ⟨0, (e32_0 _ v).trans h⟩) (fun _ => by kernel_rfl) (fun _ => by kernel_rfl) (fun _ _ => by kernel_rfl)
/- chicane/chicaneref01.low -/
abbrev A79_0 : Type := Int
abbrev R79_0 : Type := Int
def v79_0 : Pk G Int := (Pk.fst (pk (Sh.fst (Sh.cons (Sh.int .u64) Sh.nil)) Sh.hnil))
def w79_0 : Wk G Int := (Wk.one [.keep] (Pk.fst (pk (Sh.fst (Sh.cons (Sh.int .u64) Sh.nil)) Sh.hnil)))
def F79_0 (v : Int) : Option Int :=
  let x1280 : Int := (Int.tmod v (4294967296 : Int))
  some (x1280)

noncomputable def k79_0 : List (Known Try.prog E) := []
noncomputable def L79_0 (n id : Nat) (st : St G) : Option Int := none
set_option maxRecDepth 100000 in
theorem e79_0 (n : Nat) (v : Int) : ev Try.prog E (oracle k79_0) Try.f79.ntmps (fun x => mem x []) (L79_0 n) (finF Try.prog E Try.f79.results.toList [[]] w79_0.alts) 4000 [.code (Try.f79.body.getD .skip)] (argSt (v79_0.enc v)) = F79_0 v := by kernel_rfl
theorem ok79_0 : FnOk Try.prog E 79 v79_0.enc F79_0 w79_0.enc :=
  fn_known (fn := Try.f79) (c := (Try.f79.body.getD .skip)) Try.func79 (by kernel_rfl) rfl envOk (oracle_ok k79_0) mixed v79_0 F79_0 w79_0 [] [[]] (by kernel_rfl) [] 4000 L79_0 (by kernel_rfl)
    (fun _ h => nomatch h) (fun v _ h => ⟨0, (e79_0 _ v).trans h⟩) (fun _ => by kernel_rfl) (fun _ => by kernel_rfl) (fun _ _ => by kernel_rfl)
/- chicane/chicaneref01.Zero -/
abbrev A80_0 : Type := Bool × Int × Int × Int × Int
abbrev R80_0 : Type := Bool
def v80_0 : Pk G (Bool × Int × Int × Int × Int) := (Pk.fst (pk (Sh.fst (Sh.cons (Sh.agg (Sh.cons Sh.bool (Sh.cons (Sh.int .u64) (Sh.cons (Sh.int .u64) (Sh.cons (Sh.int .u64) (Sh.fst (Sh.cons (Sh.int .u64) Sh.nil))))))) Sh.nil)) Sh.hnil))
def w80_0 : Wk G Bool := (Wk.one [.keep] (Pk.fst (pk (Sh.fst (Sh.cons Sh.bool Sh.nil)) Sh.hnil)))
def F80_0 (v : Bool × Int × Int × Int × Int) : Option Bool :=
  bif (v.2.1 == (0 : Int)) then
    bif (v.2.2.1 == (0 : Int)) then
      bif (v.2.2.2.1 == (0 : Int)) then
        some (v.2.2.2.2 == (0 : Int))
      else
        some (false)
    else
      some (false)
  else
    some (false)

noncomputable def k80_0 : List (Known Try.prog E) := []
noncomputable def L80_0 (n id : Nat) (st : St G) : Option Bool := none
set_option maxRecDepth 100000 in
theorem e80_0 (n : Nat) (v : Bool × Int × Int × Int × Int) : ev Try.prog E (oracle k80_0) Try.f80.ntmps (fun x => mem x []) (L80_0 n) (finF Try.prog E Try.f80.results.toList [[]] w80_0.alts) 4000 [.code (Try.f80.body.getD .skip)] (argSt (v80_0.enc v)) = F80_0 v := by kernel_rfl
theorem ok80_0 : FnOk Try.prog E 80 v80_0.enc F80_0 w80_0.enc :=
  fn_known (fn := Try.f80) (c := (Try.f80.body.getD .skip)) Try.func80 (by kernel_rfl) rfl envOk (oracle_ok k80_0) mixed v80_0 F80_0 w80_0 [] [[]] (by kernel_rfl) [] 4000 L80_0 (by kernel_rfl)
    (fun _ h => nomatch h) (fun v _ h => ⟨0, (e80_0 _ v).trans h⟩) (fun _ => by kernel_rfl) (fun _ => by kernel_rfl) (fun _ _ => by kernel_rfl)
/- chicane/chicaneref01.Mul -/
abbrev A66_0 : Type := Int × Int
abbrev R66_0 : Type := Bool × Int × Int × Int × Int
def v66_0 : Pk G (Int × Int) := (Pk.fst (pk (Sh.cons (Sh.int .i64) (Sh.fst (Sh.cons (Sh.int .i64) Sh.nil))) Sh.hnil))
def w66_0 : Wk G (Bool × Int × Int × Int × Int) := (Wk.one [(.agg [.keep, .keep, .keep, .keep, .keep])] (Pk.fst (pk (Sh.fst (Sh.cons (Sh.agg (Sh.cons Sh.bool (Sh.cons (Sh.int .u64) (Sh.cons (Sh.int .u64) (Sh.cons (Sh.int .u64) (Sh.fst (Sh.cons (Sh.int .u64) Sh.nil))))))) Sh.nil)) Sh.hnil)))
def c66_0_7 : Pk G (Int × (Bool × Int × Int × Int × Int) × (Int × Int) × (Int × Int) × Bool × Int × Int × Int × Int) := (pk (Sh.snd (Sh.cons (Sh.ptr 0 0) (Sh.snd (Sh.cons (Sh.ptr 1 0) (Sh.snd (Sh.cons (Sh.ptr 2 0) (Sh.snd (Sh.cons (Sh.ptr 3 0) (Sh.fst (Sh.cons (Sh.int .i64) Sh.nil)))))))))) (Sh.hfix 3 96 (Sh.cons Sh.bool (Sh.cons (Sh.int .u64) (Sh.cons (Sh.int .u64) (Sh.cons (Sh.int .u64) (Sh.fst (Sh.cons (Sh.int .u64) Sh.nil)))))) (Sh.hfix 2 111 (Sh.cons (Sh.int .u64) (Sh.fst (Sh.cons (Sh.int .u64) Sh.nil))) (Sh.hfix 1 111 (Sh.cons (Sh.int .u64) (Sh.fst (Sh.cons (Sh.int .u64) Sh.nil))) (Sh.fst (Sh.hfix 0 96 (Sh.cons Sh.bool (Sh.cons (Sh.int .u64) (Sh.cons (Sh.int .u64) (Sh.cons (Sh.int .u64) (Sh.fst (Sh.cons (Sh.int .u64) Sh.nil)))))) Sh.hnil))))))
def c66_0_10 : Pk G ((Int × Int) × (Bool × Int × Int × Int × Int) × (Int × Int) × (Int × Int) × Bool × Int × Int × Int × Int) := (pk (Sh.snd (Sh.cons (Sh.ptr 0 0) (Sh.snd (Sh.cons (Sh.ptr 1 0) (Sh.snd (Sh.cons (Sh.ptr 2 0) (Sh.snd (Sh.cons (Sh.ptr 3 0) (Sh.cons (Sh.int .i64) (Sh.fst (Sh.cons (Sh.int .i64) Sh.nil))))))))))) (Sh.hfix 3 96 (Sh.cons Sh.bool (Sh.cons (Sh.int .u64) (Sh.cons (Sh.int .u64) (Sh.cons (Sh.int .u64) (Sh.fst (Sh.cons (Sh.int .u64) Sh.nil)))))) (Sh.hfix 2 111 (Sh.cons (Sh.int .u64) (Sh.fst (Sh.cons (Sh.int .u64) Sh.nil))) (Sh.hfix 1 111 (Sh.cons (Sh.int .u64) (Sh.fst (Sh.cons (Sh.int .u64) Sh.nil))) (Sh.fst (Sh.hfix 0 96 (Sh.cons Sh.bool (Sh.cons (Sh.int .u64) (Sh.cons (Sh.int .u64) (Sh.cons (Sh.int .u64) (Sh.fst (Sh.cons (Sh.int .u64) Sh.nil)))))) Sh.hnil))))))
def c66_0_15 : Pk G ((Int × Int × Int × Int) × (Bool × Int × Int × Int × Int) × (Int × Int) × (Int × Int) × Bool × Int × Int × Int × Int) := (pk (Sh.snd (Sh.cons (Sh.ptr 0 0) (Sh.snd (Sh.cons (Sh.ptr 1 0) (Sh.snd (Sh.cons (Sh.ptr 2 0) (Sh.snd (Sh.cons (Sh.ptr 3 0) (Sh.cons (Sh.int .i64) (Sh.cons (Sh.int .i64) (Sh.cons (Sh.int .u64) (Sh.fst (Sh.cons (Sh.int .i64) Sh.nil))))))))))))) (Sh.hfix 3 96 (Sh.cons Sh.bool (Sh.cons (Sh.int .u64) (Sh.cons (Sh.int .u64) (Sh.cons (Sh.int .u64) (Sh.fst (Sh.cons (Sh.int .u64) Sh.nil)))))) (Sh.hfix 2 111 (Sh.cons (Sh.int .u64) (Sh.fst (Sh.cons (Sh.int .u64) Sh.nil))) (Sh.hfix 1 111 (Sh.cons (Sh.int .u64) (Sh.fst (Sh.cons (Sh.int .u64) Sh.nil))) (Sh.fst (Sh.hfix 0 96 (Sh.cons Sh.bool (Sh.cons (Sh.int .u64) (Sh.cons (Sh.int .u64) (Sh.cons (Sh.int .u64) (Sh.fst (Sh.cons (Sh.int .u64) Sh.nil)))))) Sh.hnil))))))
def B66_0_7 (K : ((Int × (Bool × Int × Int × Int × Int) × (Int × Int) × (Int × Int) × Bool × Int × Int × Int × Int) → Option (Bool × Int × Int × Int × Int)) × (((Int × Int) × (Bool × Int × Int × Int × Int) × (Int × Int) × (Int × Int) × Bool × Int × Int × Int × Int) → Option (Bool × Int × Int × Int × Int)) × (((Int × Int × Int × Int) × (Bool × Int × Int × Int × Int) × (Int × Int) × (Int × Int) × Bool × Int × Int × Int × Int) → Option (Bool × Int × Int × Int × Int))) (v : Int × (Bool × Int × Int × Int × Int) × (Int × Int) × (Int × Int) × Bool × Int × Int × Int × Int) : Option (Bool × Int × Int × Int × Int) :=
  bif (decide (v.1 < (2 : Int))) then
    K.2.1 ((v.1, (0 : Int)), v.2)
  else
    (F80_0 v.2.1).bind fun r1373 =>
    bif r1373 then
      some (false, v.2.1.2)
    else
      some (v.2.1)

def B66_0_10 (K : ((Int × (Bool × Int × Int × Int × Int) × (Int × Int) × (Int × Int) × Bool × Int × Int × Int × Int) → Option (Bool × Int × Int × Int × Int)) × (((Int × Int) × (Bool × Int × Int × Int × Int) × (Int × Int) × (Int × Int) × Bool × Int × Int × Int × Int) → Option (Bool × Int × Int × Int × Int)) × (((Int × Int × Int × Int) × (Bool × Int × Int × Int × Int) × (Int × Int) × (Int × Int) × Bool × Int × Int × Int × Int) → Option (Bool × Int × Int × Int × Int))) (v : (Int × Int) × (Bool × Int × Int × Int × Int) × (Int × Int) × (Int × Int) × Bool × Int × Int × Int × Int) : Option (Bool × Int × Int × Int × Int) :=
  bif (decide (v.1.2 < (2 : Int))) then
    (idx v.1.1 2).bind fun (x1374 : Nat) =>
    (idx v.1.2 2).bind fun (x1375 : Nat) =>
    let x1376 : Int := (IntKind.wrap .u64 ((List.getD [v.2.2.2.1.1, v.2.2.2.1.2] x1374 0) * (List.getD [v.2.2.1.1, v.2.2.1.2] x1375 0)))
    let x1377 : Int := (IntKind.wrap .i64 (v.1.1 + v.1.2))
    K.2.2 ((v.1.1, (v.1.2, (x1376, x1377))), v.2)
  else
    let x1378 : Int := (IntKind.wrap .i64 (v.1.1 + (1 : Int)))
    K.1 (x1378, v.2)

def B66_0_15 (K : ((Int × (Bool × Int × Int × Int × Int) × (Int × Int) × (Int × Int) × Bool × Int × Int × Int × Int) → Option (Bool × Int × Int × Int × Int)) × (((Int × Int) × (Bool × Int × Int × Int × Int) × (Int × Int) × (Int × Int) × Bool × Int × Int × Int × Int) → Option (Bool × Int × Int × Int × Int)) × (((Int × Int × Int × Int) × (Bool × Int × Int × Int × Int) × (Int × Int) × (Int × Int) × Bool × Int × Int × Int × Int) → Option (Bool × Int × Int × Int × Int))) (v : (Int × Int × Int × Int) × (Bool × Int × Int × Int × Int) × (Int × Int) × (Int × Int) × Bool × Int × Int × Int × Int) : Option (Bool × Int × Int × Int × Int) :=
  bif (decide (v.1.2.2.2 < (4 : Int))) then
    bif (decide (v.1.2.2.1 > (0 : Int))) then
      (idx v.1.2.2.2 4).bind fun (x1379 : Nat) =>
      (F79_0 v.1.2.2.1).bind fun r1380 =>
      let x1381 : Int := (IntKind.wrap .u64 ((List.getD [v.2.1.2.1, v.2.1.2.2.1, v.2.1.2.2.2.1, v.2.1.2.2.2.2] x1379 0) + r1380))
      (F79_0 x1381).bind fun r1382 =>
      (idx v.1.2.2.2 4).bind fun (x1383 : Nat) =>
      let x1384 : Int := (IntKind.wrap .u64 (Int.tdiv v.1.2.2.1 (4294967296 : Int)))
      let x1385 : Int := (IntKind.wrap .u64 (Int.tdiv x1381 (4294967296 : Int)))
      let x1386 : Int := (IntKind.wrap .u64 (x1384 + x1385))
      let x1387 : Int := (IntKind.wrap .i64 (v.1.2.2.2 + (1 : Int)))
      K.2.2 ((v.1.1, (v.1.2.1, (x1386, x1387))), ((v.2.1.1, ((if x1383 = 0 then r1382 else v.2.1.2.1), ((if x1383 = 1 then r1382 else v.2.1.2.2.1), ((if x1383 = 2 then r1382 else v.2.1.2.2.2.1), (if x1383 = 3 then r1382 else v.2.1.2.2.2.2))))), v.2.2))
    else
      let x1388 : Int := (IntKind.wrap .i64 (v.1.2.1 + (1 : Int)))
      K.2.1 ((v.1.1, x1388), v.2)
  else
    let x1389 : Int := (IntKind.wrap .i64 (v.1.2.1 + (1 : Int)))
    K.2.1 ((v.1.1, x1389), v.2)

def E66_0 (K : ((Int × (Bool × Int × Int × Int × Int) × (Int × Int) × (Int × Int) × Bool × Int × Int × Int × Int) → Option (Bool × Int × Int × Int × Int)) × (((Int × Int) × (Bool × Int × Int × Int × Int) × (Int × Int) × (Int × Int) × Bool × Int × Int × Int × Int) → Option (Bool × Int × Int × Int × Int)) × (((Int × Int × Int × Int) × (Bool × Int × Int × Int × Int) × (Int × Int) × (Int × Int) × Bool × Int × Int × Int × Int) → Option (Bool × Int × Int × Int × Int))) (v : Int × Int) : Option (Bool × Int × Int × Int × Int) :=
  (F60_0 v.1).bind fun r1367 =>
  (F60_0 v.2).bind fun r1368 =>
  (F79_0 r1367).bind fun r1369 =>
  let x1370 : Int := (IntKind.wrap .u64 (Int.tdiv r1367 (4294967296 : Int)))
  (F79_0 r1368).bind fun r1371 =>
  let x1372 : Int := (IntKind.wrap .u64 (Int.tdiv r1368 (4294967296 : Int)))
  K.1 ((0 : Int), (((!((decide (v.1 < (0 : Int))) == (decide (v.2 < (0 : Int))))), ((0 : Int), ((0 : Int), ((0 : Int), (0 : Int))))), ((r1371, x1372), ((r1369, x1370), (false, ((0 : Int), ((0 : Int), ((0 : Int), (0 : Int)))))))))

def K66_0 : Nat → ((Int × (Bool × Int × Int × Int × Int) × (Int × Int) × (Int × Int) × Bool × Int × Int × Int × Int) → Option (Bool × Int × Int × Int × Int)) × (((Int × Int) × (Bool × Int × Int × Int × Int) × (Int × Int) × (Int × Int) × Bool × Int × Int × Int × Int) → Option (Bool × Int × Int × Int × Int)) × (((Int × Int × Int × Int) × (Bool × Int × Int × Int × Int) × (Int × Int) × (Int × Int) × Bool × Int × Int × Int × Int) → Option (Bool × Int × Int × Int × Int))
  | 0 => (fun _ => none, fun _ => none, fun _ => none)
  | n + 1 => (B66_0_7 (K66_0 n), B66_0_10 (K66_0 n), B66_0_15 (K66_0 n))
def fuel66_0 (v : Int × Int) : Nat := 1000
def F66_0 (v : Int × Int) : Option (Bool × Int × Int × Int × Int) := E66_0 (K66_0 (fuel66_0 v)) v
noncomputable def k66_0 : List (Known Try.prog E) := [Known.of envOk [1] [.keep] v60_0 F60_0 w60_0 ok60_0, Known.of envOk [1] [.keep] v79_0 F79_0 w79_0 ok79_0, Known.of envOk [9] [(.agg [.keep, .keep, .keep, .keep, .keep])] v80_0 F80_0 w80_0 ok80_0]
def s66_0_15 : List (Nat × Pat) := [(4, (.ptr 0 0 96 [.keep, .keep, .keep, .keep, .keep])), (7, (.ptr 1 0 111 [.keep, .keep])), (8, (.ptr 2 0 111 [.keep, .keep])), (9, (.ptr 3 0 96 [.keep, .keep, .keep, .keep, .keep])), (10, .keep), (11, .keep), (13, .keep), (14, .keep)]
def s66_0_10 : List (Nat × Pat) := [(4, (.ptr 0 0 96 [.keep, .keep, .keep, .keep, .keep])), (7, (.ptr 1 0 111 [.keep, .keep])), (8, (.ptr 2 0 111 [.keep, .keep])), (9, (.ptr 3 0 96 [.keep, .keep, .keep, .keep, .keep])), (10, .keep), (11, .keep)]
def s66_0_7 : List (Nat × Pat) := [(4, (.ptr 0 0 96 [.keep, .keep, .keep, .keep, .keep])), (7, (.ptr 1 0 111 [.keep, .keep])), (8, (.ptr 2 0 111 [.keep, .keep])), (9, (.ptr 3 0 96 [.keep, .keep, .keep, .keep, .keep])), (10, .keep)]
noncomputable def L66_0 (n id : Nat) (st : St G) : Option (Bool × Int × Int × Int × Int) := match Nat.beq id 7 with | true => cutK Try.prog s66_0_7 [] c66_0_7.dec (K66_0 n).1 st | false => match Nat.beq id 10 with | true => cutK Try.prog s66_0_10 [] c66_0_10.dec (K66_0 n).2.1 st | false => match Nat.beq id 15 with | true => cutK Try.prog s66_0_15 [] c66_0_15.dec (K66_0 n).2.2 st | false => none
set_option maxRecDepth 100000 in
theorem e66_0 (n : Nat) (v : Int × Int) : ev Try.prog E (oracle k66_0) Try.f66.ntmps (fun x => mem x [7, 10, 15]) (L66_0 n) (finF Try.prog E Try.f66.results.toList [[]] w66_0.alts) 4000 [.code (Try.f66.body.getD .skip)] (argSt (v66_0.enc v)) = E66_0 (K66_0 n) v := by kernel_rfl
set_option maxRecDepth 100000 in
theorem b66_0_7 (n : Nat) (v : Int × (Bool × Int × Int × Int × Int) × (Int × Int) × (Int × Int) × Bool × Int × Int × Int × Int) : evCut Try.prog E (oracle k66_0) false 66 Try.f66.ntmps (fun x => mem x [7, 10, 15]) (L66_0 n) (finF Try.prog E Try.f66.results.toList [[]] w66_0.alts) 4000 (todoAt (Try.f66.body.getD .skip) 7) (cutSt s66_0_7 (c66_0_7.enc v)) = B66_0_7 (K66_0 n) v := by kernel_rfl
set_option maxRecDepth 100000 in
theorem b66_0_10 (n : Nat) (v : (Int × Int) × (Bool × Int × Int × Int × Int) × (Int × Int) × (Int × Int) × Bool × Int × Int × Int × Int) : evCut Try.prog E (oracle k66_0) false 66 Try.f66.ntmps (fun x => mem x [7, 10, 15]) (L66_0 n) (finF Try.prog E Try.f66.results.toList [[]] w66_0.alts) 4000 (todoAt (Try.f66.body.getD .skip) 10) (cutSt s66_0_10 (c66_0_10.enc v)) = B66_0_10 (K66_0 n) v := by kernel_rfl
set_option maxRecDepth 100000 in
theorem b66_0_15 (n : Nat) (v : (Int × Int × Int × Int) × (Bool × Int × Int × Int × Int) × (Int × Int) × (Int × Int) × Bool × Int × Int × Int × Int) : evCut Try.prog E (oracle k66_0) false 66 Try.f66.ntmps (fun x => mem x [7, 10, 15]) (L66_0 n) (finF Try.prog E Try.f66.results.toList [[]] w66_0.alts) 4000 (todoAt (Try.f66.body.getD .skip) 15) (cutSt s66_0_15 (c66_0_15.enc v)) = B66_0_15 (K66_0 n) v := by kernel_rfl
theorem ok66_0 : FnOk Try.prog E 66 v66_0.enc F66_0 w66_0.enc :=
  fn_known (fn := Try.f66) (c := (Try.f66.body.getD .skip)) Try.func66 (by kernel_rfl) rfl envOk (oracle_ok k66_0) mixed v66_0 F66_0 w66_0 [] [[]] (by kernel_rfl) [7, 10, 15] 4000 L66_0 (by kernel_rfl)
    (List.forall_mem_cons.2 ⟨⟨_, [], s66_0_7, c66_0_7.dec, c66_0_7.enc, fun n => (K66_0 n).1, c66_0_7.ok, fun _ _ => rfl, fun _ => rfl, by kernel_rfl, fun n v _ h => (b66_0_7 n v).trans h⟩, List.forall_mem_cons.2 ⟨⟨_, [], s66_0_10, c66_0_10.dec, c66_0_10.enc, fun n => (K66_0 n).2.1, c66_0_10.ok, fun _ _ => rfl, fun _ => rfl, by kernel_rfl, fun n v _ h => (b66_0_10 n v).trans h⟩, List.forall_mem_cons.2 ⟨⟨_, [], s66_0_15, c66_0_15.dec, c66_0_15.enc, fun n => (K66_0 n).2.2, c66_0_15.ok, fun _ _ => rfl, fun _ => rfl, by kernel_rfl, fun n v _ h => (b66_0_15 n v).trans h⟩, fun _ h => (nomatch h)⟩⟩⟩) (fun v _ h => ⟨fuel66_0 v, (e66_0 _ v).trans h⟩) (fun _ => by kernel_rfl) (fun _ => by kernel_rfl) (fun _ _ => by kernel_rfl)
/- chicane/chicaneref01.plus -/
abbrev A85_0 : Type := (Int × Int × Int × Int) × Int × Int × Int × Int
abbrev R85_0 : Type := (Int × Int × Int × Int) × Int
def v85_0 : Pk G ((Int × Int × Int × Int) × Int × Int × Int × Int) := (Pk.fst (pk (Sh.cons (Sh.agg (Sh.cons (Sh.int .u64) (Sh.cons (Sh.int .u64) (Sh.cons (Sh.int .u64) (Sh.fst (Sh.cons (Sh.int .u64) Sh.nil)))))) (Sh.fst (Sh.cons (Sh.agg (Sh.cons (Sh.int .u64) (Sh.cons (Sh.int .u64) (Sh.cons (Sh.int .u64) (Sh.fst (Sh.cons (Sh.int .u64) Sh.nil)))))) Sh.nil))) Sh.hnil))
def w85_0 : Wk G ((Int × Int × Int × Int) × Int) := (Wk.one [(.agg [.keep, .keep, .keep, .keep]), .keep] (Pk.fst (pk (Sh.cons (Sh.agg (Sh.cons (Sh.int .u64) (Sh.cons (Sh.int .u64) (Sh.cons (Sh.int .u64) (Sh.fst (Sh.cons (Sh.int .u64) Sh.nil)))))) (Sh.fst (Sh.cons (Sh.int .u64) Sh.nil))) Sh.hnil)))
def F85_0 (v : (Int × Int × Int × Int) × Int × Int × Int × Int) : Option ((Int × Int × Int × Int) × Int) :=
  let x1424 : Int := (IntKind.wrap .u64 (v.1.1 + v.2.1))
  let x1425 : Int := (IntKind.wrap .u64 (x1424 + (0 : Int)))
  (F79_0 x1425).bind fun r1426 =>
  let x1427 : Int := (IntKind.wrap .u64 (Int.tdiv x1425 (4294967296 : Int)))
  let x1428 : Int := (IntKind.wrap .u64 (v.1.2.1 + v.2.2.1))
  let x1429 : Int := (IntKind.wrap .u64 (x1428 + x1427))
  (F79_0 x1429).bind fun r1430 =>
  let x1431 : Int := (IntKind.wrap .u64 (Int.tdiv x1429 (4294967296 : Int)))
  let x1432 : Int := (IntKind.wrap .u64 (v.1.2.2.1 + v.2.2.2.1))
  let x1433 : Int := (IntKind.wrap .u64 (x1432 + x1431))
  (F79_0 x1433).bind fun r1434 =>
  let x1435 : Int := (IntKind.wrap .u64 (Int.tdiv x1433 (4294967296 : Int)))
  let x1436 : Int := (IntKind.wrap .u64 (v.1.2.2.2 + v.2.2.2.2))
  let x1437 : Int := (IntKind.wrap .u64 (x1436 + x1435))
  (F79_0 x1437).bind fun r1438 =>
  let x1439 : Int := (IntKind.wrap .u64 (Int.tdiv x1437 (4294967296 : Int)))
  some ((r1426, (r1430, (r1434, r1438))), x1439)

noncomputable def k85_0 : List (Known Try.prog E) := [Known.of envOk [1] [.keep] v79_0 F79_0 w79_0 ok79_0]
noncomputable def L85_0 (n id : Nat) (st : St G) : Option ((Int × Int × Int × Int) × Int) := none
set_option maxRecDepth 100000 in
theorem e85_0 (n : Nat) (v : (Int × Int × Int × Int) × Int × Int × Int × Int) : ev Try.prog E (oracle k85_0) Try.f85.ntmps (fun x => mem x []) (L85_0 n) (finF Try.prog E Try.f85.results.toList [[]] w85_0.alts) 4000 [.code (Try.f85.body.getD .skip)] (argSt (v85_0.enc v)) = F85_0 v := by kernel_rfl
theorem ok85_0 : FnOk Try.prog E 85 v85_0.enc F85_0 w85_0.enc :=
  fn_known (fn := Try.f85) (c := (Try.f85.body.getD .skip)) Try.func85 (by kernel_rfl) rfl envOk (oracle_ok k85_0) mixed v85_0 F85_0 w85_0 [] [[]] (by kernel_rfl) [] 4000 L85_0 (by kernel_rfl)
    (fun _ h => nomatch h) (fun v _ h => ⟨0, (e85_0 _ v).trans h⟩) (fun _ => by kernel_rfl) (fun _ => by kernel_rfl) (fun _ _ => by kernel_rfl)
/- chicane/chicaneref01.Words -/
abbrev A87_0 : Type := Bool × Int × Int × Int × Int
abbrev R87_0 : Type := Int × Int × Bool
def v87_0 : Pk G (Bool × Int × Int × Int × Int) := (Pk.fst (pk (Sh.fst (Sh.cons (Sh.agg (Sh.cons Sh.bool (Sh.cons (Sh.int .u64) (Sh.cons (Sh.int .u64) (Sh.cons (Sh.int .u64) (Sh.fst (Sh.cons (Sh.int .u64) Sh.nil))))))) Sh.nil)) Sh.hnil))
def w87_0 : Wk G (Int × Int × Bool) := (Wk.one [.keep, .keep, .keep] (Pk.fst (pk (Sh.cons (Sh.int .i64) (Sh.cons (Sh.int .u64) (Sh.fst (Sh.cons Sh.bool Sh.nil)))) Sh.hnil)))
def F87_0 (v : Bool × Int × Int × Int × Int) : Option (Int × Int × Bool) :=
  let x1478 : Int := (IntKind.wrap .u64 (v.2.2.2.2 * (4294967296 : Int)))
  let x1479 : Int := (IntKind.wrap .u64 (x1478 + v.2.2.2.1))
  let x1480 : Int := (IntKind.wrap .u64 (v.2.2.1 * (4294967296 : Int)))
  let x1481 : Int := (IntKind.wrap .u64 (x1480 + v.2.1))
  bif (decide (x1479 > (9223372036854775808 : Int))) then
    some ((0 : Int), ((0 : Int), false))
  else
    bif (x1479 == (9223372036854775808 : Int)) then
      bif (x1481 != (0 : Int)) then
        some ((0 : Int), ((0 : Int), false))
      else
        bif (!v.1) then
          some ((0 : Int), ((0 : Int), false))
        else
          bif v.1 then
            let x1482 : Int := (Go.bits .xor .u64 (18446744073709551615) x1481)
            let x1483 : Int := (IntKind.wrap .u64 (x1482 + (1 : Int)))
            let x1484 : Int := (Go.bits .xor .u64 (18446744073709551615) x1479)
            bif (x1483 == (0 : Int)) then
              let x1485 : Int := (IntKind.wrap .u64 (x1484 + (1 : Int)))
              let x1486 : Int := (IntKind.wrap .i64 x1485)
              some (x1486, (x1483, true))
            else
              let x1487 : Int := (IntKind.wrap .i64 x1484)
              some (x1487, (x1483, true))
          else
            let x1488 : Int := (IntKind.wrap .i64 x1479)
            some (x1488, (x1481, true))
    else
      bif v.1 then
        let x1489 : Int := (Go.bits .xor .u64 (18446744073709551615) x1481)
        let x1490 : Int := (IntKind.wrap .u64 (x1489 + (1 : Int)))
        let x1491 : Int := (Go.bits .xor .u64 (18446744073709551615) x1479)
        bif (x1490 == (0 : Int)) then
          let x1492 : Int := (IntKind.wrap .u64 (x1491 + (1 : Int)))
          let x1493 : Int := (IntKind.wrap .i64 x1492)
          some (x1493, (x1490, true))
        else
          let x1494 : Int := (IntKind.wrap .i64 x1491)
          some (x1494, (x1490, true))
      else
        let x1495 : Int := (IntKind.wrap .i64 x1479)
        some (x1495, (x1481, true))

noncomputable def k87_0 : List (Known Try.prog E) := []
noncomputable def L87_0 (n id : Nat) (st : St G) : Option (Int × Int × Bool) := none
set_option maxRecDepth 100000 in
theorem e87_0 (n : Nat) (v : Bool × Int × Int × Int × Int) : ev Try.prog E (oracle k87_0) Try.f87.ntmps (fun x => mem x []) (L87_0 n) (finF Try.prog E Try.f87.results.toList [[]] w87_0.alts) 4000 [.code (Try.f87.body.getD .skip)] (argSt (v87_0.enc v)) = F87_0 v := by kernel_rfl
theorem ok87_0 : FnOk Try.prog E 87 v87_0.enc F87_0 w87_0.enc :=
  fn_known (fn := Try.f87) (c := (Try.f87.body.getD .skip)) Try.func87 (by kernel_rfl) rfl envOk (oracle_ok k87_0) mixed v87_0 F87_0 w87_0 [] [[]] (by kernel_rfl) [] 4000 L87_0 (by kernel_rfl)
    (fun _ h => nomatch h) (fun v _ h => ⟨0, (e87_0 _ v).trans h⟩) (fun _ => by kernel_rfl) (fun _ => by kernel_rfl) (fun _ _ => by kernel_rfl)
/- chicane/chicaneref01.less -/
abbrev A77_0 : Type := (Int × Int × Int × Int) × Int × Int × Int × Int
abbrev R77_0 : Type := Bool
def v77_0 : Pk G ((Int × Int × Int × Int) × Int × Int × Int × Int) := (Pk.fst (pk (Sh.cons (Sh.agg (Sh.cons (Sh.int .u64) (Sh.cons (Sh.int .u64) (Sh.cons (Sh.int .u64) (Sh.fst (Sh.cons (Sh.int .u64) Sh.nil)))))) (Sh.fst (Sh.cons (Sh.agg (Sh.cons (Sh.int .u64) (Sh.cons (Sh.int .u64) (Sh.cons (Sh.int .u64) (Sh.fst (Sh.cons (Sh.int .u64) Sh.nil)))))) Sh.nil))) Sh.hnil))
def w77_0 : Wk G Bool := (Wk.one [.keep] (Pk.fst (pk (Sh.fst (Sh.cons Sh.bool Sh.nil)) Sh.hnil)))
def F77_0 (v : (Int × Int × Int × Int) × Int × Int × Int × Int) : Option Bool :=
  bif (v.1.2.2.2 != v.2.2.2.2) then
    some (decide (v.1.2.2.2 < v.2.2.2.2))
  else
    bif (v.1.2.2.1 != v.2.2.2.1) then
      some (decide (v.1.2.2.1 < v.2.2.2.1))
    else
      bif (v.1.2.1 != v.2.2.1) then
        some (decide (v.1.2.1 < v.2.2.1))
      else
        bif (v.1.1 != v.2.1) then
          some (decide (v.1.1 < v.2.1))
        else
          some (false)

noncomputable def k77_0 : List (Known Try.prog E) := []
noncomputable def L77_0 (n id : Nat) (st : St G) : Option Bool := none
set_option maxRecDepth 100000 in
theorem e77_0 (n : Nat) (v : (Int × Int × Int × Int) × Int × Int × Int × Int) : ev Try.prog E (oracle k77_0) Try.f77.ntmps (fun x => mem x []) (L77_0 n) (finF Try.prog E Try.f77.results.toList [[]] w77_0.alts) 4000 [.code (Try.f77.body.getD .skip)] (argSt (v77_0.enc v)) = F77_0 v := by kernel_rfl
theorem ok77_0 : FnOk Try.prog E 77 v77_0.enc F77_0 w77_0.enc :=
  fn_known (fn := Try.f77) (c := (Try.f77.body.getD .skip)) Try.func77 (by kernel_rfl) rfl envOk (oracle_ok k77_0) mixed v77_0 F77_0 w77_0 [] [[]] (by kernel_rfl) [] 4000 L77_0 (by kernel_rfl)
    (fun _ h => nomatch h) (fun v _ h => ⟨0, (e77_0 _ v).trans h⟩) (fun _ => by kernel_rfl) (fun _ => by kernel_rfl) (fun _ _ => by kernel_rfl)
/- chicane/chicaneref01.minus -/
abbrev A86_0 : Type := (Int × Int × Int × Int) × Int × Int × Int × Int
abbrev R86_0 : Type := Int × Int × Int × Int
def v86_0 : Pk G ((Int × Int × Int × Int) × Int × Int × Int × Int) := (Pk.fst (pk (Sh.cons (Sh.agg (Sh.cons (Sh.int .u64) (Sh.cons (Sh.int .u64) (Sh.cons (Sh.int .u64) (Sh.fst (Sh.cons (Sh.int .u64) Sh.nil)))))) (Sh.fst (Sh.cons (Sh.agg (Sh.cons (Sh.int .u64) (Sh.cons (Sh.int .u64) (Sh.cons (Sh.int .u64) (Sh.fst (Sh.cons (Sh.int .u64) Sh.nil)))))) Sh.nil))) Sh.hnil))
def w86_0 : Wk G (Int × Int × Int × Int) := (Wk.one [(.agg [.keep, .keep, .keep, .keep])] (Pk.fst (pk (Sh.fst (Sh.cons (Sh.agg (Sh.cons (Sh.int .u64) (Sh.cons (Sh.int .u64) (Sh.cons (Sh.int .u64) (Sh.fst (Sh.cons (Sh.int .u64) Sh.nil)))))) Sh.nil)) Sh.hnil)))
def F86_0 (v : (Int × Int × Int × Int) × Int × Int × Int × Int) : Option (Int × Int × Int × Int) :=
  let x1547 : Int := (IntKind.wrap .u64 (v.1.1 + (4294967296 : Int)))
  let x1548 : Int := (IntKind.wrap .u64 (x1547 - v.2.1))
  let x1549 : Int := (IntKind.wrap .u64 (x1548 - (0 : Int)))
  (F79_0 x1549).bind fun r1550 =>
  let x1551 : Int := (IntKind.wrap .u64 (Int.tdiv x1549 (4294967296 : Int)))
  let x1552 : Int := (IntKind.wrap .u64 ((1 : Int) - x1551))
  let x1553 : Int := (IntKind.wrap .u64 (v.1.2.1 + (4294967296 : Int)))
  let x1554 : Int := (IntKind.wrap .u64 (x1553 - v.2.2.1))
  let x1555 : Int := (IntKind.wrap .u64 (x1554 - x1552))
  (F79_0 x1555).bind fun r1556 =>
  let x1557 : Int := (IntKind.wrap .u64 (Int.tdiv x1555 (4294967296 : Int)))
  let x1558 : Int := (IntKind.wrap .u64 ((1 : Int) - x1557))
  let x1559 : Int := (IntKind.wrap .u64 (v.1.2.2.1 + (4294967296 : Int)))
  let x1560 : Int := (IntKind.wrap .u64 (x1559 - v.2.2.2.1))
  let x1561 : Int := (IntKind.wrap .u64 (x1560 - x1558))
  (F79_0 x1561).bind fun r1562 =>
  let x1563 : Int := (IntKind.wrap .u64 (Int.tdiv x1561 (4294967296 : Int)))
  let x1564 : Int := (IntKind.wrap .u64 ((1 : Int) - x1563))
  let x1565 : Int := (IntKind.wrap .u64 (v.1.2.2.2 + (4294967296 : Int)))
  let x1566 : Int := (IntKind.wrap .u64 (x1565 - v.2.2.2.2))
  let x1567 : Int := (IntKind.wrap .u64 (x1566 - x1564))
  (F79_0 x1567).bind fun r1568 =>
  some (r1550, (r1556, (r1562, r1568)))

noncomputable def k86_0 : List (Known Try.prog E) := [Known.of envOk [1] [.keep] v79_0 F79_0 w79_0 ok79_0]
noncomputable def L86_0 (n id : Nat) (st : St G) : Option (Int × Int × Int × Int) := none
set_option maxRecDepth 100000 in
theorem e86_0 (n : Nat) (v : (Int × Int × Int × Int) × Int × Int × Int × Int) : ev Try.prog E (oracle k86_0) Try.f86.ntmps (fun x => mem x []) (L86_0 n) (finF Try.prog E Try.f86.results.toList [[]] w86_0.alts) 4000 [.code (Try.f86.body.getD .skip)] (argSt (v86_0.enc v)) = F86_0 v := by kernel_rfl
theorem ok86_0 : FnOk Try.prog E 86 v86_0.enc F86_0 w86_0.enc :=
  fn_known (fn := Try.f86) (c := (Try.f86.body.getD .skip)) Try.func86 (by kernel_rfl) rfl envOk (oracle_ok k86_0) mixed v86_0 F86_0 w86_0 [] [[]] (by kernel_rfl) [] 4000 L86_0 (by kernel_rfl)
    (fun _ h => nomatch h) (fun v _ h => ⟨0, (e86_0 _ v).trans h⟩) (fun _ => by kernel_rfl) (fun _ => by kernel_rfl) (fun _ _ => by kernel_rfl)
/- chicane/chicaneref01.Add -/
abbrev A84_0 : Type := (Bool × Int × Int × Int × Int) × Bool × Int × Int × Int × Int
abbrev R84_0 : Type := (Bool × Int × Int × Int × Int) × Bool
def v84_0 : Pk G ((Bool × Int × Int × Int × Int) × Bool × Int × Int × Int × Int) := (Pk.fst (pk (Sh.cons (Sh.agg (Sh.cons Sh.bool (Sh.cons (Sh.int .u64) (Sh.cons (Sh.int .u64) (Sh.cons (Sh.int .u64) (Sh.fst (Sh.cons (Sh.int .u64) Sh.nil))))))) (Sh.fst (Sh.cons (Sh.agg (Sh.cons Sh.bool (Sh.cons (Sh.int .u64) (Sh.cons (Sh.int .u64) (Sh.cons (Sh.int .u64) (Sh.fst (Sh.cons (Sh.int .u64) Sh.nil))))))) Sh.nil))) Sh.hnil))
def w84_0 : Wk G ((Bool × Int × Int × Int × Int) × Bool) := (Wk.one [(.agg [.keep, .keep, .keep, .keep, .keep]), .keep] (Pk.fst (pk (Sh.cons (Sh.agg (Sh.cons Sh.bool (Sh.cons (Sh.int .u64) (Sh.cons (Sh.int .u64) (Sh.cons (Sh.int .u64) (Sh.fst (Sh.cons (Sh.int .u64) Sh.nil))))))) (Sh.fst (Sh.cons Sh.bool Sh.nil))) Sh.hnil)))
def F84_0 (v : (Bool × Int × Int × Int × Int) × Bool × Int × Int × Int × Int) : Option ((Bool × Int × Int × Int × Int) × Bool) :=
  bif (v.1.1 == v.2.1) then
    (F85_0 (v.1.2, v.2.2)).bind fun r1592 =>
    (F80_0 (v.1.1, r1592.1)).bind fun r1593 =>
    bif r1593 then
      (F87_0 (false, r1592.1)).bind fun r1594 =>
      bif (!(r1592.2 == (0 : Int))) then
        some ((false, ((0 : Int), ((0 : Int), ((0 : Int), (0 : Int))))), false)
      else
        bif (!r1594.2.2) then
          some ((false, ((0 : Int), ((0 : Int), ((0 : Int), (0 : Int))))), false)
        else
          some ((false, r1592.1), true)
    else
      (F87_0 (v.1.1, r1592.1)).bind fun r1595 =>
      bif (!(r1592.2 == (0 : Int))) then
        some ((false, ((0 : Int), ((0 : Int), ((0 : Int), (0 : Int))))), false)
      else
        bif (!r1595.2.2) then
          some ((false, ((0 : Int), ((0 : Int), ((0 : Int), (0 : Int))))), false)
        else
          some ((v.1.1, r1592.1), true)
  else
    (F77_0 (v.1.2, v.2.2)).bind fun r1596 =>
    bif r1596 then
      (F86_0 (v.2.2, v.1.2)).bind fun r1597 =>
      (F80_0 (v.2.1, r1597)).bind fun r1598 =>
      bif r1598 then
        (F87_0 (false, r1597)).bind fun r1599 =>
        bif (!r1599.2.2) then
          some ((false, ((0 : Int), ((0 : Int), ((0 : Int), (0 : Int))))), false)
        else
          some ((false, r1597), true)
      else
        (F87_0 (v.2.1, r1597)).bind fun r1600 =>
        bif (!r1600.2.2) then
          some ((false, ((0 : Int), ((0 : Int), ((0 : Int), (0 : Int))))), false)
        else
          some ((v.2.1, r1597), true)
    else
      (F86_0 (v.1.2, v.2.2)).bind fun r1601 =>
      (F80_0 (v.1.1, r1601)).bind fun r1602 =>
      bif r1602 then
        (F87_0 (false, r1601)).bind fun r1603 =>
        bif (!r1603.2.2) then
          some ((false, ((0 : Int), ((0 : Int), ((0 : Int), (0 : Int))))), false)
        else
          some ((false, r1601), true)
      else
        (F87_0 (v.1.1, r1601)).bind fun r1604 =>
        bif (!r1604.2.2) then
          some ((false, ((0 : Int), ((0 : Int), ((0 : Int), (0 : Int))))), false)
        else
          some ((v.1.1, r1601), true)

noncomputable def k84_0 : List (Known Try.prog E) := [Known.of envOk [9, 9] [(.agg [.keep, .keep, .keep, .keep]), (.agg [.keep, .keep, .keep, .keep])] v85_0 F85_0 w85_0 ok85_0, Known.of envOk [9] [(.agg [.keep, .keep, .keep, .keep, .keep])] v80_0 F80_0 w80_0 ok80_0, Known.of envOk [9] [(.agg [.keep, .keep, .keep, .keep, .keep])] v87_0 F87_0 w87_0 ok87_0, Known.of envOk [9, 9] [(.agg [.keep, .keep, .keep, .keep]), (.agg [.keep, .keep, .keep, .keep])] v77_0 F77_0 w77_0 ok77_0, Known.of envOk [9, 9] [(.agg [.keep, .keep, .keep, .keep]), (.agg [.keep, .keep, .keep, .keep])] v86_0 F86_0 w86_0 ok86_0]
noncomputable def L84_0 (n id : Nat) (st : St G) : Option ((Bool × Int × Int × Int × Int) × Bool) := none
set_option maxRecDepth 100000 in
theorem e84_0 (n : Nat) (v : (Bool × Int × Int × Int × Int) × Bool × Int × Int × Int × Int) : ev Try.prog E (oracle k84_0) Try.f84.ntmps (fun x => mem x []) (L84_0 n) (finF Try.prog E Try.f84.results.toList [[]] w84_0.alts) 4000 [.code (Try.f84.body.getD .skip)] (argSt (v84_0.enc v)) = F84_0 v := by kernel_rfl
theorem ok84_0 : FnOk Try.prog E 84 v84_0.enc F84_0 w84_0.enc :=
  fn_known (fn := Try.f84) (c := (Try.f84.body.getD .skip)) Try.func84 (by kernel_rfl) rfl envOk (oracle_ok k84_0) mixed v84_0 F84_0 w84_0 [] [[]] (by kernel_rfl) [] 4000 L84_0 (by kernel_rfl)
    (fun _ h => nomatch h) (fun v _ h => ⟨0, (e84_0 _ v).trans h⟩) (fun _ => by kernel_rfl) (fun _ => by kernel_rfl) (fun _ _ => by kernel_rfl)
/- chicane/chicaneref01.Sign -/
abbrev A76_0 : Type := Bool × Int × Int × Int × Int
abbrev R76_0 : Type := Int
def v76_0 : Pk G (Bool × Int × Int × Int × Int) := (Pk.fst (pk (Sh.fst (Sh.cons (Sh.agg (Sh.cons Sh.bool (Sh.cons (Sh.int .u64) (Sh.cons (Sh.int .u64) (Sh.cons (Sh.int .u64) (Sh.fst (Sh.cons (Sh.int .u64) Sh.nil))))))) Sh.nil)) Sh.hnil))
def w76_0 : Wk G Int := (Wk.one [.keep] (Pk.fst (pk (Sh.fst (Sh.cons (Sh.int .i64) Sh.nil)) Sh.hnil)))
def F76_0 (v : Bool × Int × Int × Int × Int) : Option Int :=
  (F80_0 v).bind fun r1612 =>
  bif r1612 then
    some (0 : Int)
  else
    bif v.1 then
      some (-1 : Int)
    else
      some (1 : Int)

noncomputable def k76_0 : List (Known Try.prog E) := [Known.of envOk [9] [(.agg [.keep, .keep, .keep, .keep, .keep])] v80_0 F80_0 w80_0 ok80_0]
noncomputable def L76_0 (n id : Nat) (st : St G) : Option Int := none
set_option maxRecDepth 100000 in
theorem e76_0 (n : Nat) (v : Bool × Int × Int × Int × Int) : ev Try.prog E (oracle k76_0) Try.f76.ntmps (fun x => mem x []) (L76_0 n) (finF Try.prog E Try.f76.results.toList [[]] w76_0.alts) 4000 [.code (Try.f76.body.getD .skip)] (argSt (v76_0.enc v)) = F76_0 v := by kernel_rfl
theorem ok76_0 : FnOk Try.prog E 76 v76_0.enc F76_0 w76_0.enc :=
  fn_known (fn := Try.f76) (c := (Try.f76.body.getD .skip)) Try.func76 (by kernel_rfl) rfl envOk (oracle_ok k76_0) mixed v76_0 F76_0 w76_0 [] [[]] (by kernel_rfl) [] 4000 L76_0 (by kernel_rfl)
    (fun _ h => nomatch h) (fun v _ h => ⟨0, (e76_0 _ v).trans h⟩) (fun _ => by kernel_rfl) (fun _ => by kernel_rfl) (fun _ _ => by kernel_rfl)
/- chicane/chicaneref01.square -/
abbrev A78_0 : Type := Int
abbrev R78_0 : Type := Int × Int × Int × Int
def v78_0 : Pk G Int := (Pk.fst (pk (Sh.fst (Sh.cons (Sh.int .u64) Sh.nil)) Sh.hnil))
def w78_0 : Wk G (Int × Int × Int × Int) := (Wk.one [(.agg [.keep, .keep, .keep, .keep])] (Pk.fst (pk (Sh.fst (Sh.cons (Sh.agg (Sh.cons (Sh.int .u64) (Sh.cons (Sh.int .u64) (Sh.cons (Sh.int .u64) (Sh.fst (Sh.cons (Sh.int .u64) Sh.nil)))))) Sh.nil)) Sh.hnil)))
def c78_0_4 : Pk G (Int × (Int × Int × Int × Int) × (Int × Int) × Int × Int × Int × Int) := (pk (Sh.snd (Sh.cons (Sh.ptr 0 0) (Sh.snd (Sh.cons (Sh.ptr 1 0) (Sh.snd (Sh.cons (Sh.ptr 2 0) (Sh.fst (Sh.cons (Sh.int .i64) Sh.nil)))))))) (Sh.hfix 2 89 (Sh.cons (Sh.int .u64) (Sh.cons (Sh.int .u64) (Sh.cons (Sh.int .u64) (Sh.fst (Sh.cons (Sh.int .u64) Sh.nil))))) (Sh.hfix 1 111 (Sh.cons (Sh.int .u64) (Sh.fst (Sh.cons (Sh.int .u64) Sh.nil))) (Sh.fst (Sh.hfix 0 89 (Sh.cons (Sh.int .u64) (Sh.cons (Sh.int .u64) (Sh.cons (Sh.int .u64) (Sh.fst (Sh.cons (Sh.int .u64) Sh.nil))))) Sh.hnil)))))
def c78_0_7 : Pk G ((Int × Int) × (Int × Int × Int × Int) × (Int × Int) × Int × Int × Int × Int) := (pk (Sh.snd (Sh.cons (Sh.ptr 0 0) (Sh.snd (Sh.cons (Sh.ptr 1 0) (Sh.snd (Sh.cons (Sh.ptr 2 0) (Sh.cons (Sh.int .i64) (Sh.fst (Sh.cons (Sh.int .i64) Sh.nil))))))))) (Sh.hfix 2 89 (Sh.cons (Sh.int .u64) (Sh.cons (Sh.int .u64) (Sh.cons (Sh.int .u64) (Sh.fst (Sh.cons (Sh.int .u64) Sh.nil))))) (Sh.hfix 1 111 (Sh.cons (Sh.int .u64) (Sh.fst (Sh.cons (Sh.int .u64) Sh.nil))) (Sh.fst (Sh.hfix 0 89 (Sh.cons (Sh.int .u64) (Sh.cons (Sh.int .u64) (Sh.cons (Sh.int .u64) (Sh.fst (Sh.cons (Sh.int .u64) Sh.nil))))) Sh.hnil)))))
def c78_0_11 : Pk G ((Int × Int × Int × Int) × (Int × Int × Int × Int) × (Int × Int) × Int × Int × Int × Int) := (pk (Sh.snd (Sh.cons (Sh.ptr 0 0) (Sh.snd (Sh.cons (Sh.ptr 1 0) (Sh.snd (Sh.cons (Sh.ptr 2 0) (Sh.cons (Sh.int .i64) (Sh.cons (Sh.int .i64) (Sh.cons (Sh.int .u64) (Sh.fst (Sh.cons (Sh.int .i64) Sh.nil))))))))))) (Sh.hfix 2 89 (Sh.cons (Sh.int .u64) (Sh.cons (Sh.int .u64) (Sh.cons (Sh.int .u64) (Sh.fst (Sh.cons (Sh.int .u64) Sh.nil))))) (Sh.hfix 1 111 (Sh.cons (Sh.int .u64) (Sh.fst (Sh.cons (Sh.int .u64) Sh.nil))) (Sh.fst (Sh.hfix 0 89 (Sh.cons (Sh.int .u64) (Sh.cons (Sh.int .u64) (Sh.cons (Sh.int .u64) (Sh.fst (Sh.cons (Sh.int .u64) Sh.nil))))) Sh.hnil)))))
def B78_0_4 (K : ((Int × (Int × Int × Int × Int) × (Int × Int) × Int × Int × Int × Int) → Option (Int × Int × Int × Int)) × (((Int × Int) × (Int × Int × Int × Int) × (Int × Int) × Int × Int × Int × Int) → Option (Int × Int × Int × Int)) × (((Int × Int × Int × Int) × (Int × Int × Int × Int) × (Int × Int) × Int × Int × Int × Int) → Option (Int × Int × Int × Int))) (v : Int × (Int × Int × Int × Int) × (Int × Int) × Int × Int × Int × Int) : Option (Int × Int × Int × Int) :=
  bif (decide (v.1 < (2 : Int))) then
    K.2.1 ((v.1, (0 : Int)), v.2)
  else
    some (v.2.1)

def B78_0_7 (K : ((Int × (Int × Int × Int × Int) × (Int × Int) × Int × Int × Int × Int) → Option (Int × Int × Int × Int)) × (((Int × Int) × (Int × Int × Int × Int) × (Int × Int) × Int × Int × Int × Int) → Option (Int × Int × Int × Int)) × (((Int × Int × Int × Int) × (Int × Int × Int × Int) × (Int × Int) × Int × Int × Int × Int) → Option (Int × Int × Int × Int))) (v : (Int × Int) × (Int × Int × Int × Int) × (Int × Int) × Int × Int × Int × Int) : Option (Int × Int × Int × Int) :=
  bif (decide (v.1.2 < (2 : Int))) then
    (idx v.1.1 2).bind fun (x1688 : Nat) =>
    (idx v.1.2 2).bind fun (x1689 : Nat) =>
    let x1690 : Int := (IntKind.wrap .u64 ((List.getD [v.2.2.1.1, v.2.2.1.2] x1688 0) * (List.getD [v.2.2.1.1, v.2.2.1.2] x1689 0)))
    let x1691 : Int := (IntKind.wrap .i64 (v.1.1 + v.1.2))
    K.2.2 ((v.1.1, (v.1.2, (x1690, x1691))), v.2)
  else
    let x1692 : Int := (IntKind.wrap .i64 (v.1.1 + (1 : Int)))
    K.1 (x1692, v.2)

def B78_0_11 (K : ((Int × (Int × Int × Int × Int) × (Int × Int) × Int × Int × Int × Int) → Option (Int × Int × Int × Int)) × (((Int × Int) × (Int × Int × Int × Int) × (Int × Int) × Int × Int × Int × Int) → Option (Int × Int × Int × Int)) × (((Int × Int × Int × Int) × (Int × Int × Int × Int) × (Int × Int) × Int × Int × Int × Int) → Option (Int × Int × Int × Int))) (v : (Int × Int × Int × Int) × (Int × Int × Int × Int) × (Int × Int) × Int × Int × Int × Int) : Option (Int × Int × Int × Int) :=
  bif (decide (v.1.2.2.2 < (4 : Int))) then
    bif (decide (v.1.2.2.1 > (0 : Int))) then
      (idx v.1.2.2.2 4).bind fun (x1693 : Nat) =>
      (F79_0 v.1.2.2.1).bind fun r1694 =>
      let x1695 : Int := (IntKind.wrap .u64 ((List.getD [v.2.1.1, v.2.1.2.1, v.2.1.2.2.1, v.2.1.2.2.2] x1693 0) + r1694))
      (F79_0 x1695).bind fun r1696 =>
      (idx v.1.2.2.2 4).bind fun (x1697 : Nat) =>
      let x1698 : Int := (IntKind.wrap .u64 (Int.tdiv v.1.2.2.1 (4294967296 : Int)))
      let x1699 : Int := (IntKind.wrap .u64 (Int.tdiv x1695 (4294967296 : Int)))
      let x1700 : Int := (IntKind.wrap .u64 (x1698 + x1699))
      let x1701 : Int := (IntKind.wrap .i64 (v.1.2.2.2 + (1 : Int)))
      K.2.2 ((v.1.1, (v.1.2.1, (x1700, x1701))), (((if x1697 = 0 then r1696 else v.2.1.1), ((if x1697 = 1 then r1696 else v.2.1.2.1), ((if x1697 = 2 then r1696 else v.2.1.2.2.1), (if x1697 = 3 then r1696 else v.2.1.2.2.2)))), v.2.2))
    else
      let x1702 : Int := (IntKind.wrap .i64 (v.1.2.1 + (1 : Int)))
      K.2.1 ((v.1.1, x1702), v.2)
  else
    let x1703 : Int := (IntKind.wrap .i64 (v.1.2.1 + (1 : Int)))
    K.2.1 ((v.1.1, x1703), v.2)

def E78_0 (K : ((Int × (Int × Int × Int × Int) × (Int × Int) × Int × Int × Int × Int) → Option (Int × Int × Int × Int)) × (((Int × Int) × (Int × Int × Int × Int) × (Int × Int) × Int × Int × Int × Int) → Option (Int × Int × Int × Int)) × (((Int × Int × Int × Int) × (Int × Int × Int × Int) × (Int × Int) × Int × Int × Int × Int) → Option (Int × Int × Int × Int))) (v : Int) : Option (Int × Int × Int × Int) :=
  (F79_0 v).bind fun r1686 =>
  let x1687 : Int := (IntKind.wrap .u64 (Int.tdiv v (4294967296 : Int)))
  K.1 ((0 : Int), (((0 : Int), ((0 : Int), ((0 : Int), (0 : Int)))), ((r1686, x1687), ((0 : Int), ((0 : Int), ((0 : Int), (0 : Int)))))))

def K78_0 : Nat → ((Int × (Int × Int × Int × Int) × (Int × Int) × Int × Int × Int × Int) → Option (Int × Int × Int × Int)) × (((Int × Int) × (Int × Int × Int × Int) × (Int × Int) × Int × Int × Int × Int) → Option (Int × Int × Int × Int)) × (((Int × Int × Int × Int) × (Int × Int × Int × Int) × (Int × Int) × Int × Int × Int × Int) → Option (Int × Int × Int × Int))
  | 0 => (fun _ => none, fun _ => none, fun _ => none)
  | n + 1 => (B78_0_4 (K78_0 n), B78_0_7 (K78_0 n), B78_0_11 (K78_0 n))
def fuel78_0 (v : Int) : Nat := 1000
def F78_0 (v : Int) : Option (Int × Int × Int × Int) := E78_0 (K78_0 (fuel78_0 v)) v
noncomputable def k78_0 : List (Known Try.prog E) := [Known.of envOk [1] [.keep] v79_0 F79_0 w79_0 ok79_0]
def s78_0_11 : List (Nat × Pat) := [(2, (.ptr 0 0 89 [.keep, .keep, .keep, .keep])), (3, (.ptr 1 0 111 [.keep, .keep])), (4, (.ptr 2 0 89 [.keep, .keep, .keep, .keep])), (5, .keep), (6, .keep), (7, .keep), (8, .keep)]
def s78_0_7 : List (Nat × Pat) := [(2, (.ptr 0 0 89 [.keep, .keep, .keep, .keep])), (3, (.ptr 1 0 111 [.keep, .keep])), (4, (.ptr 2 0 89 [.keep, .keep, .keep, .keep])), (5, .keep), (6, .keep)]
def s78_0_4 : List (Nat × Pat) := [(2, (.ptr 0 0 89 [.keep, .keep, .keep, .keep])), (3, (.ptr 1 0 111 [.keep, .keep])), (4, (.ptr 2 0 89 [.keep, .keep, .keep, .keep])), (5, .keep)]
noncomputable def L78_0 (n id : Nat) (st : St G) : Option (Int × Int × Int × Int) := match Nat.beq id 4 with | true => cutK Try.prog s78_0_4 [] c78_0_4.dec (K78_0 n).1 st | false => match Nat.beq id 7 with | true => cutK Try.prog s78_0_7 [] c78_0_7.dec (K78_0 n).2.1 st | false => match Nat.beq id 11 with | true => cutK Try.prog s78_0_11 [] c78_0_11.dec (K78_0 n).2.2 st | false => none
set_option maxRecDepth 100000 in
theorem e78_0 (n : Nat) (v : Int) : ev Try.prog E (oracle k78_0) Try.f78.ntmps (fun x => mem x [4, 7, 11]) (L78_0 n) (finF Try.prog E Try.f78.results.toList [[]] w78_0.alts) 4000 [.code (Try.f78.body.getD .skip)] (argSt (v78_0.enc v)) = E78_0 (K78_0 n) v := by kernel_rfl
set_option maxRecDepth 100000 in
theorem b78_0_4 (n : Nat) (v : Int × (Int × Int × Int × Int) × (Int × Int) × Int × Int × Int × Int) : evCut Try.prog E (oracle k78_0) false 78 Try.f78.ntmps (fun x => mem x [4, 7, 11]) (L78_0 n) (finF Try.prog E Try.f78.results.toList [[]] w78_0.alts) 4000 (todoAt (Try.f78.body.getD .skip) 4) (cutSt s78_0_4 (c78_0_4.enc v)) = B78_0_4 (K78_0 n) v := by kernel_rfl
set_option maxRecDepth 100000 in
theorem b78_0_7 (n : Nat) (v : (Int × Int) × (Int × Int × Int × Int) × (Int × Int) × Int × Int × Int × Int) : evCut Try.prog E (oracle k78_0) false 78 Try.f78.ntmps (fun x => mem x [4, 7, 11]) (L78_0 n) (finF Try.prog E Try.f78.results.toList [[]] w78_0.alts) 4000 (todoAt (Try.f78.body.getD .skip) 7) (cutSt s78_0_7 (c78_0_7.enc v)) = B78_0_7 (K78_0 n) v := by kernel_rfl
set_option maxRecDepth 100000 in
theorem b78_0_11 (n : Nat) (v : (Int × Int × Int × Int) × (Int × Int × Int × Int) × (Int × Int) × Int × Int × Int × Int) : evCut Try.prog E (oracle k78_0) false 78 Try.f78.ntmps (fun x => mem x [4, 7, 11]) (L78_0 n) (finF Try.prog E Try.f78.results.toList [[]] w78_0.alts) 4000 (todoAt (Try.f78.body.getD .skip) 11) (cutSt s78_0_11 (c78_0_11.enc v)) = B78_0_11 (K78_0 n) v := by kernel_rfl
theorem ok78_0 : FnOk Try.prog E 78 v78_0.enc F78_0 w78_0.enc :=
  fn_known (fn := Try.f78) (c := (Try.f78.body.getD .skip)) Try.func78 (by kernel_rfl) rfl envOk (oracle_ok k78_0) mixed v78_0 F78_0 w78_0 [] [[]] (by kernel_rfl) [4, 7, 11] 4000 L78_0 (by kernel_rfl)
    (List.forall_mem_cons.2 ⟨⟨_, [], s78_0_4, c78_0_4.dec, c78_0_4.enc, fun n => (K78_0 n).1, c78_0_4.ok, fun _ _ => rfl, fun _ => rfl, by kernel_rfl, fun n v _ h => (b78_0_4 n v).trans h⟩, List.forall_mem_cons.2 ⟨⟨_, [], s78_0_7, c78_0_7.dec, c78_0_7.enc, fun n => (K78_0 n).2.1, c78_0_7.ok, fun _ _ => rfl, fun _ => rfl, by kernel_rfl, fun n v _ h => (b78_0_7 n v).trans h⟩, List.forall_mem_cons.2 ⟨⟨_, [], s78_0_11, c78_0_11.dec, c78_0_11.enc, fun n => (K78_0 n).2.2, c78_0_11.ok, fun _ _ => rfl, fun _ => rfl, by kernel_rfl, fun n v _ h => (b78_0_11 n v).trans h⟩, fun _ h => (nomatch h)⟩⟩⟩) (fun v _ h => ⟨fuel78_0 v, (e78_0 _ v).trans h⟩) (fun _ => by kernel_rfl) (fun _ => by kernel_rfl) (fun _ _ => by kernel_rfl)
/- chicane/chicaneref01.Root -/
abbrev A65_0 : Type := Bool × Int × Int × Int × Int
abbrev R65_0 : Type := Int
def v65_0 : Pk G (Bool × Int × Int × Int × Int) := (Pk.fst (pk (Sh.fst (Sh.cons (Sh.agg (Sh.cons Sh.bool (Sh.cons (Sh.int .u64) (Sh.cons (Sh.int .u64) (Sh.cons (Sh.int .u64) (Sh.fst (Sh.cons (Sh.int .u64) Sh.nil))))))) Sh.nil)) Sh.hnil))
def w65_0 : Wk G Int := (Wk.one [.keep] (Pk.fst (pk (Sh.fst (Sh.cons (Sh.int .u64) Sh.nil)) Sh.hnil)))
def c65_0_5 : Pk G ((Int × Int) × Bool × Int × Int × Int × Int) := (pk (Sh.snd (Sh.cons (Sh.ptr 0 0) (Sh.cons (Sh.int .u64) (Sh.fst (Sh.cons (Sh.int .i64) Sh.nil))))) (Sh.fst (Sh.hfix 0 96 (Sh.cons Sh.bool (Sh.cons (Sh.int .u64) (Sh.cons (Sh.int .u64) (Sh.cons (Sh.int .u64) (Sh.fst (Sh.cons (Sh.int .u64) Sh.nil)))))) Sh.hnil)))
def B65_0_5 (K : (((Int × Int) × Bool × Int × Int × Int × Int) → Option Int)) (v : (Int × Int) × Bool × Int × Int × Int × Int) : Option Int :=
  bif (decide (v.1.2 ≥ (0 : Int))) then
    let x1718 : Int := (IntKind.wrap .u64 v.1.2)
    (chk (decide (0 ≤ x1718))).bind fun _ =>
    let x1719 : Int := (IntKind.wrap .u64 ((1 : Int) * 2 ^ min (x1718).toNat 64))
    let x1720 : Int := (IntKind.wrap .u64 (v.1.1 + x1719))
    (F78_0 x1720).bind fun r1721 =>
    (F77_0 (v.2.2, r1721)).bind fun r1722 =>
    bif (!r1722) then
      let x1723 : Int := (IntKind.wrap .i64 (v.1.2 - (1 : Int)))
      K ((x1720, x1723), v.2)
    else
      let x1724 : Int := (IntKind.wrap .i64 (v.1.2 - (1 : Int)))
      K ((v.1.1, x1724), v.2)
  else
    some (v.1.1)

def E65_0 (K : (((Int × Int) × Bool × Int × Int × Int × Int) → Option Int)) (v : Bool × Int × Int × Int × Int) : Option Int :=
  (F76_0 v).bind fun r1717 =>
  bif (decide (r1717 ≤ (0 : Int))) then
    some (0 : Int)
  else
    K (((0 : Int), (63 : Int)), v)

def K65_0 : Nat → (((Int × Int) × Bool × Int × Int × Int × Int) → Option Int)
  | 0 => (fun _ => none)
  | n + 1 => (B65_0_5 (K65_0 n))
def fuel65_0 (v : Bool × Int × Int × Int × Int) : Nat := 1000
def F65_0 (v : Bool × Int × Int × Int × Int) : Option Int := E65_0 (K65_0 (fuel65_0 v)) v
noncomputable def k65_0 : List (Known Try.prog E) := [Known.of envOk [9] [(.agg [.keep, .keep, .keep, .keep, .keep])] v76_0 F76_0 w76_0 ok76_0, Known.of envOk [1] [.keep] v78_0 F78_0 w78_0 ok78_0, Known.of envOk [9, 9] [(.agg [.keep, .keep, .keep, .keep]), (.agg [.keep, .keep, .keep, .keep])] v77_0 F77_0 w77_0 ok77_0]
def s65_0_5 : List (Nat × Pat) := [(1, (.ptr 0 0 96 [.keep, .keep, .keep, .keep, .keep])), (3, .keep), (4, .keep)]
noncomputable def L65_0 (n id : Nat) (st : St G) : Option Int := match Nat.beq id 5 with | true => cutK Try.prog s65_0_5 [] c65_0_5.dec (K65_0 n) st | false => none
set_option maxRecDepth 100000 in
theorem e65_0 (n : Nat) (v : Bool × Int × Int × Int × Int) : ev Try.prog E (oracle k65_0) Try.f65.ntmps (fun x => mem x [5]) (L65_0 n) (finF Try.prog E Try.f65.results.toList [[]] w65_0.alts) 4000 [.code (Try.f65.body.getD .skip)] (argSt (v65_0.enc v)) = E65_0 (K65_0 n) v := by kernel_rfl
set_option maxRecDepth 100000 in
theorem b65_0_5 (n : Nat) (v : (Int × Int) × Bool × Int × Int × Int × Int) : evCut Try.prog E (oracle k65_0) false 65 Try.f65.ntmps (fun x => mem x [5]) (L65_0 n) (finF Try.prog E Try.f65.results.toList [[]] w65_0.alts) 4000 (todoAt (Try.f65.body.getD .skip) 5) (cutSt s65_0_5 (c65_0_5.enc v)) = B65_0_5 (K65_0 n) v := by kernel_rfl
theorem ok65_0 : FnOk Try.prog E 65 v65_0.enc F65_0 w65_0.enc :=
  fn_known (fn := Try.f65) (c := (Try.f65.body.getD .skip)) Try.func65 (by kernel_rfl) rfl envOk (oracle_ok k65_0) mixed v65_0 F65_0 w65_0 [] [[]] (by kernel_rfl) [5] 4000 L65_0 (by kernel_rfl)
    (List.forall_mem_cons.2 ⟨⟨_, [], s65_0_5, c65_0_5.dec, c65_0_5.enc, fun n => (K65_0 n), c65_0_5.ok, fun _ _ => rfl, fun _ => rfl, by kernel_rfl, fun n v _ h => (b65_0_5 n v).trans h⟩, fun _ h => (nomatch h)⟩) (fun v _ h => ⟨fuel65_0 v, (e65_0 _ v).trans h⟩) (fun _ => by kernel_rfl) (fun _ => by kernel_rfl) (fun _ _ => by kernel_rfl)
/- chicane/chicaneref03.Len4 -/
abbrev A82_0 : Type := (Int × Int × Int × Int) × Bool
abbrev R82_0 : Type := Int × Bool
def v82_0 : Pk G ((Int × Int × Int × Int) × Bool) := (pk (Sh.snd (Sh.cons (Sh.ptr 0 0) (Sh.cons (Sh.int .i64) (Sh.cons (Sh.int .i64) (Sh.cons (Sh.int .i64) (Sh.fst (Sh.cons (Sh.int .i64) Sh.nil))))))) (Sh.fst (Sh.hfix 0 31 (Sh.fst (Sh.cons Sh.bool Sh.nil)) Sh.hnil)))
def w82_0 : Wk G (Int × Bool) := (Wk.one [.keep] (pk (Sh.fst (Sh.cons (Sh.int .i64) Sh.nil)) (Sh.fst (Sh.hfix 0 31 (Sh.fst (Sh.cons Sh.bool Sh.nil)) Sh.hnil))))
def F82_0 (v : (Int × Int × Int × Int) × Bool) : Option (Int × Bool) :=
  (F66_0 (v.1.1, v.1.1)).bind fun r1752 =>
  (F66_0 (v.1.2.1, v.1.2.1)).bind fun r1753 =>
  (F84_0 (r1752, r1753)).bind fun r1754 =>
  bif r1754.2 then
    (F66_0 (v.1.2.2.1, v.1.2.2.1)).bind fun r1755 =>
    (F84_0 (r1754.1, r1755)).bind fun r1756 =>
    bif r1756.2 then
      (F66_0 (v.1.2.2.2, v.1.2.2.2)).bind fun r1757 =>
      (F84_0 (r1756.1, r1757)).bind fun r1758 =>
      bif r1758.2 then
        (F65_0 r1758.1).bind fun r1759 =>
        bif (!r1758.2) then
          some ((9223372036854775807 : Int), true)
        else
          bif (decide (r1759 > (9223372036854775807 : Int))) then
            some ((9223372036854775807 : Int), true)
          else
            let x1760 : Int := (IntKind.wrap .i64 r1759)
            some (x1760, v.2)
      else
        bif (!r1758.2) then
          some ((9223372036854775807 : Int), true)
        else
          some ((0 : Int), v.2)
    else
      bif r1756.2 then
        (F65_0 r1756.1).bind fun r1761 =>
        bif (!r1756.2) then
          some ((9223372036854775807 : Int), true)
        else
          bif (decide (r1761 > (9223372036854775807 : Int))) then
            some ((9223372036854775807 : Int), true)
          else
            let x1762 : Int := (IntKind.wrap .i64 r1761)
            some (x1762, v.2)
      else
        bif (!r1756.2) then
          some ((9223372036854775807 : Int), true)
        else
          some ((0 : Int), v.2)
  else
    bif r1754.2 then
      (F66_0 (v.1.2.2.2, v.1.2.2.2)).bind fun r1763 =>
      (F84_0 (r1754.1, r1763)).bind fun r1764 =>
      bif r1764.2 then
        (F65_0 r1764.1).bind fun r1765 =>
        bif (!r1764.2) then
          some ((9223372036854775807 : Int), true)
        else
          bif (decide (r1765 > (9223372036854775807 : Int))) then
            some ((9223372036854775807 : Int), true)
          else
            let x1766 : Int := (IntKind.wrap .i64 r1765)
            some (x1766, v.2)
      else
        bif (!r1764.2) then
          some ((9223372036854775807 : Int), true)
        else
          some ((0 : Int), v.2)
    else
      bif r1754.2 then
        (F65_0 r1754.1).bind fun r1767 =>
        bif (!r1754.2) then
          some ((9223372036854775807 : Int), true)
        else
          bif (decide (r1767 > (9223372036854775807 : Int))) then
            some ((9223372036854775807 : Int), true)
          else
            let x1768 : Int := (IntKind.wrap .i64 r1767)
            some (x1768, v.2)
      else
        bif (!r1754.2) then
          some ((9223372036854775807 : Int), true)
        else
          some ((0 : Int), v.2)

noncomputable def k82_0 : List (Known Try.prog E) := [Known.of envOk [1, 1] [.keep, .keep] v66_0 F66_0 w66_0 ok66_0, Known.of envOk [9, 9] [(.agg [.keep, .keep, .keep, .keep, .keep]), (.agg [.keep, .keep, .keep, .keep, .keep])] v84_0 F84_0 w84_0 ok84_0, Known.of envOk [9] [(.agg [.keep, .keep, .keep, .keep, .keep])] v65_0 F65_0 w65_0 ok65_0]
noncomputable def L82_0 (n id : Nat) (st : St G) : Option (Int × Bool) := none
set_option maxRecDepth 100000 in
theorem e82_0 (n : Nat) (v : (Int × Int × Int × Int) × Bool) : ev Try.prog E (oracle k82_0) Try.f82.ntmps (fun x => mem x []) (L82_0 n) (finF Try.prog E Try.f82.results.toList [[(.ptr 0 0 31 [.keep])]] w82_0.alts) 4000 [.code (Try.f82.body.getD .skip)] (argSt (v82_0.enc v)) = F82_0 v := by kernel_rfl
theorem ok82_0 : FnOk Try.prog E 82 v82_0.enc F82_0 w82_0.enc :=
  fn_known (fn := Try.f82) (c := (Try.f82.body.getD .skip)) Try.func82 (by kernel_rfl) rfl envOk (oracle_ok k82_0) mixed v82_0 F82_0 w82_0 [(.ptr 0 0 31 [.keep])] [[(.ptr 0 0 31 [.keep])]] (by kernel_rfl) [] 4000 L82_0 (by kernel_rfl)
    (fun _ h => nomatch h) (fun v _ h => ⟨0, (e82_0 _ v).trans h⟩) (fun _ => by kernel_rfl) (fun _ => by kernel_rfl) (fun _ _ => by kernel_rfl)
/- chicane/chicaneref03.Len3 -/
abbrev A75_0 : Type := (Int × Int × Int) × Bool
abbrev R75_0 : Type := Int × Bool
def v75_0 : Pk G ((Int × Int × Int) × Bool) := (pk (Sh.snd (Sh.cons (Sh.ptr 0 0) (Sh.cons (Sh.int .i64) (Sh.cons (Sh.int .i64) (Sh.fst (Sh.cons (Sh.int .i64) Sh.nil)))))) (Sh.fst (Sh.hfix 0 31 (Sh.fst (Sh.cons Sh.bool Sh.nil)) Sh.hnil)))
def w75_0 : Wk G (Int × Bool) := (Wk.one [.keep] (pk (Sh.fst (Sh.cons (Sh.int .i64) Sh.nil)) (Sh.fst (Sh.hfix 0 31 (Sh.fst (Sh.cons Sh.bool Sh.nil)) Sh.hnil))))
def F75_0 (v : (Int × Int × Int) × Bool) : Option (Int × Bool) :=
  (F82_0 (((0 : Int), v.1), v.2)).bind fun r1771 =>
  some (r1771)

noncomputable def k75_0 : List (Known Try.prog E) := [Known.of envOk [5, 1, 1, 1, 1] [(.ptr 0 0 31 [.keep]), .keep, .keep, .keep, .keep] v82_0 F82_0 w82_0 ok82_0]
noncomputable def L75_0 (n id : Nat) (st : St G) : Option (Int × Bool) := none
set_option maxRecDepth 100000 in
theorem e75_0 (n : Nat) (v : (Int × Int × Int) × Bool) : ev Try.prog E (oracle k75_0) Try.f75.ntmps (fun x => mem x []) (L75_0 n) (finF Try.prog E Try.f75.results.toList [[(.ptr 0 0 31 [.keep])]] w75_0.alts) 4000 [.code (Try.f75.body.getD .skip)] (argSt (v75_0.enc v)) = F75_0 v := by kernel_rfl
theorem ok75_0 : FnOk Try.prog E 75 v75_0.enc F75_0 w75_0.enc :=
  fn_known (fn := Try.f75) (c := (Try.f75.body.getD .skip)) Try.func75 (by kernel_rfl) rfl envOk (oracle_ok k75_0) mixed v75_0 F75_0 w75_0 [(.ptr 0 0 31 [.keep])] [[(.ptr 0 0 31 [.keep])]] (by kernel_rfl) [] 4000 L75_0 (by kernel_rfl)
    (fun _ h => nomatch h) (fun v _ h => ⟨0, (e75_0 _ v).trans h⟩) (fun _ => by kernel_rfl) (fun _ => by kernel_rfl) (fun _ _ => by kernel_rfl)
/- chicane/chicaneref03.Len2 -/
abbrev A62_0 : Type := (Int × Int) × Bool
abbrev R62_0 : Type := Int × Bool
def v62_0 : Pk G ((Int × Int) × Bool) := (pk (Sh.snd (Sh.cons (Sh.ptr 0 0) (Sh.cons (Sh.int .i64) (Sh.fst (Sh.cons (Sh.int .i64) Sh.nil))))) (Sh.fst (Sh.hfix 0 31 (Sh.fst (Sh.cons Sh.bool Sh.nil)) Sh.hnil)))
def w62_0 : Wk G (Int × Bool) := (Wk.one [.keep] (pk (Sh.fst (Sh.cons (Sh.int .i64) Sh.nil)) (Sh.fst (Sh.hfix 0 31 (Sh.fst (Sh.cons Sh.bool Sh.nil)) Sh.hnil))))
def F62_0 (v : (Int × Int) × Bool) : Option (Int × Bool) :=
  (F75_0 ((v.1.1, (v.1.2, (0 : Int))), v.2)).bind fun r1774 =>
  some (r1774)

noncomputable def k62_0 : List (Known Try.prog E) := [Known.of envOk [5, 1, 1, 1] [(.ptr 0 0 31 [.keep]), .keep, .keep, .keep] v75_0 F75_0 w75_0 ok75_0]
noncomputable def L62_0 (n id : Nat) (st : St G) : Option (Int × Bool) := none
set_option maxRecDepth 100000 in
theorem e62_0 (n : Nat) (v : (Int × Int) × Bool) : ev Try.prog E (oracle k62_0) Try.f62.ntmps (fun x => mem x []) (L62_0 n) (finF Try.prog E Try.f62.results.toList [[(.ptr 0 0 31 [.keep])]] w62_0.alts) 4000 [.code (Try.f62.body.getD .skip)] (argSt (v62_0.enc v)) = F62_0 v := by kernel_rfl
theorem ok62_0 : FnOk Try.prog E 62 v62_0.enc F62_0 w62_0.enc :=
  fn_known (fn := Try.f62) (c := (Try.f62.body.getD .skip)) Try.func62 (by kernel_rfl) rfl envOk (oracle_ok k62_0) mixed v62_0 F62_0 w62_0 [(.ptr 0 0 31 [.keep])] [[(.ptr 0 0 31 [.keep])]] (by kernel_rfl) [] 4000 L62_0 (by kernel_rfl)
    (fun _ h => nomatch h) (fun v _ h => ⟨0, (e62_0 _ v).trans h⟩) (fun _ => by kernel_rfl) (fun _ => by kernel_rfl) (fun _ _ => by kernel_rfl)
/- chicane/chicaneref52.far -/
abbrev A33_0 : Type := ((Int × Int) × Int × Int) × Bool
abbrev R33_0 : Type := Int × Bool
def v33_0 : Pk G (((Int × Int) × Int × Int) × Bool) := (pk (Sh.snd (Sh.cons (Sh.ptr 0 0) (Sh.cons (Sh.agg (Sh.cons (Sh.int .i64) (Sh.fst (Sh.cons (Sh.int .i64) Sh.nil)))) (Sh.fst (Sh.cons (Sh.agg (Sh.cons (Sh.int .i64) (Sh.fst (Sh.cons (Sh.int .i64) Sh.nil)))) Sh.nil))))) (Sh.fst (Sh.hfix 0 31 (Sh.fst (Sh.cons Sh.bool Sh.nil)) Sh.hnil)))
def w33_0 : Wk G (Int × Bool) := (Wk.one [.keep] (pk (Sh.fst (Sh.cons (Sh.int .i64) Sh.nil)) (Sh.fst (Sh.hfix 0 31 (Sh.fst (Sh.cons Sh.bool Sh.nil)) Sh.hnil))))
def F33_0 (v : ((Int × Int) × Int × Int) × Bool) : Option (Int × Bool) :=
  (F31_0 ((v.1.2.1, v.1.1.1), v.2)).bind fun r1779 =>
  (F31_0 ((v.1.2.2, v.1.1.2), r1779.2)).bind fun r1780 =>
  (F62_0 ((r1779.1, r1780.1), r1780.2)).bind fun r1781 =>
  some (r1781)

noncomputable def k33_0 : List (Known Try.prog E) := [Known.of envOk [5, 1, 1] [(.ptr 0 0 31 [.keep]), .keep, .keep] v31_0 F31_0 w31_0 ok31_0, Known.of envOk [5, 1, 1] [(.ptr 0 0 31 [.keep]), .keep, .keep] v62_0 F62_0 w62_0 ok62_0]
noncomputable def L33_0 (n id : Nat) (st : St G) : Option (Int × Bool) := none
set_option maxRecDepth 100000 in
theorem e33_0 (n : Nat) (v : ((Int × Int) × Int × Int) × Bool) : ev Try.prog E (oracle k33_0) Try.f33.ntmps (fun x => mem x []) (L33_0 n) (finF Try.prog E Try.f33.results.toList [[(.ptr 0 0 31 [.keep])]] w33_0.alts) 4000 [.code (Try.f33.body.getD .skip)] (argSt (v33_0.enc v)) = F33_0 v := by kernel_rfl
theorem ok33_0 : FnOk Try.prog E 33 v33_0.enc F33_0 w33_0.enc :=
  fn_known (fn := Try.f33) (c := (Try.f33.body.getD .skip)) Try.func33 (by kernel_rfl) rfl envOk (oracle_ok k33_0) mixed v33_0 F33_0 w33_0 [(.ptr 0 0 31 [.keep])] [[(.ptr 0 0 31 [.keep])]] (by kernel_rfl) [] 4000 L33_0 (by kernel_rfl)
    (fun _ h => nomatch h) (fun v _ h => ⟨0, (e33_0 _ v).trans h⟩) (fun _ => by kernel_rfl) (fun _ => by kernel_rfl) (fun _ _ => by kernel_rfl)
/- (*chicane/chicaneref02.M).Add -/
abbrev A36_0 : Type := (Int × Int) × Bool
abbrev R36_0 : Type := Int × Bool
def v36_0 : Pk G ((Int × Int) × Bool) := (pk (Sh.snd (Sh.cons (Sh.ptr 0 0) (Sh.cons (Sh.int .i64) (Sh.fst (Sh.cons (Sh.int .i64) Sh.nil))))) (Sh.fst (Sh.hfix 0 31 (Sh.fst (Sh.cons Sh.bool Sh.nil)) Sh.hnil)))
def w36_0 : Wk G (Int × Bool) := (Wk.one [.keep] (pk (Sh.fst (Sh.cons (Sh.int .i64) Sh.nil)) (Sh.fst (Sh.hfix 0 31 (Sh.fst (Sh.cons Sh.bool Sh.nil)) Sh.hnil))))
def F36_0 (v : (Int × Int) × Bool) : Option (Int × Bool) :=
  bif (decide (v.1.2 > (0 : Int))) then
    let x1807 : Int := (IntKind.wrap .i64 ((9223372036854775807 : Int) - v.1.2))
    bif (decide (v.1.1 > x1807)) then
      (F59_0 (false, v.2)).bind fun r1808 =>
      some (r1808)
    else
      bif (decide (v.1.2 < (0 : Int))) then
        let x1809 : Int := (IntKind.wrap .i64 ((-9223372036854775808 : Int) - v.1.2))
        bif (decide (v.1.1 < x1809)) then
          (F59_0 (true, v.2)).bind fun r1810 =>
          some (r1810)
        else
          let x1811 : Int := (IntKind.wrap .i64 (v.1.1 + v.1.2))
          some (x1811, v.2)
      else
        let x1812 : Int := (IntKind.wrap .i64 (v.1.1 + v.1.2))
        some (x1812, v.2)
  else
    bif (decide (v.1.2 < (0 : Int))) then
      let x1813 : Int := (IntKind.wrap .i64 ((-9223372036854775808 : Int) - v.1.2))
      bif (decide (v.1.1 < x1813)) then
        (F59_0 (true, v.2)).bind fun r1814 =>
        some (r1814)
      else
        let x1815 : Int := (IntKind.wrap .i64 (v.1.1 + v.1.2))
        some (x1815, v.2)
    else
      let x1816 : Int := (IntKind.wrap .i64 (v.1.1 + v.1.2))
      some (x1816, v.2)

noncomputable def k36_0 : List (Known Try.prog E) := [Known.of envOk [5, 2] [(.ptr 0 0 31 [.keep]), .keep] v59_0 F59_0 w59_0 ok59_0]
noncomputable def L36_0 (n id : Nat) (st : St G) : Option (Int × Bool) := none
set_option maxRecDepth 100000 in
theorem e36_0 (n : Nat) (v : (Int × Int) × Bool) : ev Try.prog E (oracle k36_0) Try.f36.ntmps (fun x => mem x []) (L36_0 n) (finF Try.prog E Try.f36.results.toList [[(.ptr 0 0 31 [.keep])]] w36_0.alts) 4000 [.code (Try.f36.body.getD .skip)] (argSt (v36_0.enc v)) = F36_0 v := by kernel_rfl
theorem ok36_0 : FnOk Try.prog E 36 v36_0.enc F36_0 w36_0.enc :=
  fn_known (fn := Try.f36) (c := (Try.f36.body.getD .skip)) Try.func36 (by kernel_rfl) rfl envOk (oracle_ok k36_0) mixed v36_0 F36_0 w36_0 [(.ptr 0 0 31 [.keep])] [[(.ptr 0 0 31 [.keep])]] (by kernel_rfl) [] 4000 L36_0 (by kernel_rfl)
    (fun _ h => nomatch h) (fun v _ h => ⟨0, (e36_0 _ v).trans h⟩) (fun _ => by kernel_rfl) (fun _ => by kernel_rfl) (fun _ _ => by kernel_rfl)
/- (*chicane/chicaneref02.M).Neg -/
abbrev A64_0 : Type := Int × Bool
abbrev R64_0 : Type := Int × Bool
def v64_0 : Pk G (Int × Bool) := (pk (Sh.snd (Sh.cons (Sh.ptr 0 0) (Sh.fst (Sh.cons (Sh.int .i64) Sh.nil)))) (Sh.fst (Sh.hfix 0 31 (Sh.fst (Sh.cons Sh.bool Sh.nil)) Sh.hnil)))
def w64_0 : Wk G (Int × Bool) := (Wk.one [.keep] (pk (Sh.fst (Sh.cons (Sh.int .i64) Sh.nil)) (Sh.fst (Sh.hfix 0 31 (Sh.fst (Sh.cons Sh.bool Sh.nil)) Sh.hnil))))
def F64_0 (v : Int × Bool) : Option (Int × Bool) :=
  (F31_0 (((0 : Int), v.1), v.2)).bind fun r1820 =>
  some (r1820)

noncomputable def k64_0 : List (Known Try.prog E) := [Known.of envOk [5, 1, 1] [(.ptr 0 0 31 [.keep]), .keep, .keep] v31_0 F31_0 w31_0 ok31_0]
noncomputable def L64_0 (n id : Nat) (st : St G) : Option (Int × Bool) := none
set_option maxRecDepth 100000 in
theorem e64_0 (n : Nat) (v : Int × Bool) : ev Try.prog E (oracle k64_0) Try.f64.ntmps (fun x => mem x []) (L64_0 n) (finF Try.prog E Try.f64.results.toList [[(.ptr 0 0 31 [.keep])]] w64_0.alts) 4000 [.code (Try.f64.body.getD .skip)] (argSt (v64_0.enc v)) = F64_0 v := by kernel_rfl
theorem ok64_0 : FnOk Try.prog E 64 v64_0.enc F64_0 w64_0.enc :=
  fn_known (fn := Try.f64) (c := (Try.f64.body.getD .skip)) Try.func64 (by kernel_rfl) rfl envOk (oracle_ok k64_0) mixed v64_0 F64_0 w64_0 [(.ptr 0 0 31 [.keep])] [[(.ptr 0 0 31 [.keep])]] (by kernel_rfl) [] 4000 L64_0 (by kernel_rfl)
    (fun _ h => nomatch h) (fun v _ h => ⟨0, (e64_0 _ v).trans h⟩) (fun _ => by kernel_rfl) (fun _ => by kernel_rfl) (fun _ _ => by kernel_rfl)
/- (*chicane/chicaneref02.M).Abs -/
abbrev A35_0 : Type := Int × Bool
abbrev R35_0 : Type := Int × Bool
def v35_0 : Pk G (Int × Bool) := (pk (Sh.snd (Sh.cons (Sh.ptr 0 0) (Sh.fst (Sh.cons (Sh.int .i64) Sh.nil)))) (Sh.fst (Sh.hfix 0 31 (Sh.fst (Sh.cons Sh.bool Sh.nil)) Sh.hnil)))
def w35_0 : Wk G (Int × Bool) := (Wk.one [.keep] (pk (Sh.fst (Sh.cons (Sh.int .i64) Sh.nil)) (Sh.fst (Sh.hfix 0 31 (Sh.fst (Sh.cons Sh.bool Sh.nil)) Sh.hnil))))
def F35_0 (v : Int × Bool) : Option (Int × Bool) :=
  bif (decide (v.1 < (0 : Int))) then
    (F64_0 v).bind fun r1823 =>
    some (r1823)
  else
    some (v)

noncomputable def k35_0 : List (Known Try.prog E) := [Known.of envOk [5, 1] [(.ptr 0 0 31 [.keep]), .keep] v64_0 F64_0 w64_0 ok64_0]
noncomputable def L35_0 (n id : Nat) (st : St G) : Option (Int × Bool) := none
set_option maxRecDepth 100000 in
theorem e35_0 (n : Nat) (v : Int × Bool) : ev Try.prog E (oracle k35_0) Try.f35.ntmps (fun x => mem x []) (L35_0 n) (finF Try.prog E Try.f35.results.toList [[(.ptr 0 0 31 [.keep])]] w35_0.alts) 4000 [.code (Try.f35.body.getD .skip)] (argSt (v35_0.enc v)) = F35_0 v := by kernel_rfl
theorem ok35_0 : FnOk Try.prog E 35 v35_0.enc F35_0 w35_0.enc :=
  fn_known (fn := Try.f35) (c := (Try.f35.body.getD .skip)) Try.func35 (by kernel_rfl) rfl envOk (oracle_ok k35_0) mixed v35_0 F35_0 w35_0 [(.ptr 0 0 31 [.keep])] [[(.ptr 0 0 31 [.keep])]] (by kernel_rfl) [] 4000 L35_0 (by kernel_rfl)
    (fun _ h => nomatch h) (fun v _ h => ⟨0, (e35_0 _ v).trans h⟩) (fun _ => by kernel_rfl) (fun _ => by kernel_rfl) (fun _ _ => by kernel_rfl)
/- chicane/chicaneref02.over -/
abbrev A63_0 : Type := Int × Int
abbrev R63_0 : Type := Int × Bool
def v63_0 : Pk G (Int × Int) := (Pk.fst (pk (Sh.cons (Sh.int .u64) (Sh.fst (Sh.cons (Sh.int .u64) Sh.nil))) Sh.hnil))
def w63_0 : Wk G (Int × Bool) := (Wk.one [.keep, .keep] (Pk.fst (pk (Sh.cons (Sh.int .u64) (Sh.fst (Sh.cons Sh.bool Sh.nil))) Sh.hnil)))
def c63_0_4 : Pk G (Int × Int × Int × Int × Int) := (Pk.fst (pk (Sh.cons (Sh.int .u64) (Sh.cons (Sh.int .u64) (Sh.cons (Sh.int .u64) (Sh.cons (Sh.int .u64) (Sh.fst (Sh.cons (Sh.int .i64) Sh.nil)))))) Sh.hnil))
def B63_0_4 (K : ((Int × Int × Int × Int × Int) → Option (Int × Bool))) (v : Int × Int × Int × Int × Int) : Option (Int × Bool) :=
  bif (decide (v.2.2.2.2 ≥ (0 : Int))) then
    bif (decide (v.2.2.2.2 ≥ (32 : Int))) then
      let x1876 : Int := (IntKind.wrap .i64 (v.2.2.2.2 - (32 : Int)))
      let x1877 : Int := (IntKind.wrap .u64 x1876)
      (chk (decide (0 ≤ x1877))).bind fun _ =>
      let x1878 : Int := (Int.fdiv v.1 (2 ^ min (x1877).toNat 64))
      let x1879 : Int := (Int.tmod x1878 (2 : Int))
      let x1880 : Int := (IntKind.wrap .u64 ((2 : Int) * v.2.2.2.1))
      let x1881 : Int := (IntKind.wrap .u64 (x1880 + x1879))
      bif (decide (v.2.2.1 ≥ (9223372036854775808 : Int))) then
        some ((0 : Int), false)
      else
        let x1882 : Int := (IntKind.wrap .u64 ((2 : Int) * v.2.2.1))
        bif (decide (x1881 ≥ v.2.1)) then
          let x1883 : Int := (IntKind.wrap .u64 (x1881 - v.2.1))
          let x1884 : Int := (IntKind.wrap .u64 (x1882 + (1 : Int)))
          let x1885 : Int := (IntKind.wrap .i64 (v.2.2.2.2 - (1 : Int)))
          K (v.1, (v.2.1, (x1884, (x1883, x1885))))
        else
          let x1886 : Int := (IntKind.wrap .i64 (v.2.2.2.2 - (1 : Int)))
          K (v.1, (v.2.1, (x1882, (x1881, x1886))))
    else
      let x1887 : Int := (IntKind.wrap .u64 ((2 : Int) * v.2.2.2.1))
      let x1888 : Int := (IntKind.wrap .u64 (x1887 + (0 : Int)))
      bif (decide (v.2.2.1 ≥ (9223372036854775808 : Int))) then
        some ((0 : Int), false)
      else
        let x1889 : Int := (IntKind.wrap .u64 ((2 : Int) * v.2.2.1))
        bif (decide (x1888 ≥ v.2.1)) then
          let x1890 : Int := (IntKind.wrap .u64 (x1888 - v.2.1))
          let x1891 : Int := (IntKind.wrap .u64 (x1889 + (1 : Int)))
          let x1892 : Int := (IntKind.wrap .i64 (v.2.2.2.2 - (1 : Int)))
          K (v.1, (v.2.1, (x1891, (x1890, x1892))))
        else
          let x1893 : Int := (IntKind.wrap .i64 (v.2.2.2.2 - (1 : Int)))
          K (v.1, (v.2.1, (x1889, (x1888, x1893))))
  else
    let x1894 : Int := (IntKind.wrap .u64 (v.2.1 - v.2.2.2.1))
    bif (decide (v.2.2.2.1 > x1894)) then
      let x1895 : Int := (IntKind.wrap .u64 (v.2.2.1 + (1 : Int)))
      bif (x1895 == (0 : Int)) then
        some ((0 : Int), false)
      else
        some (x1895, true)
    else
      let x1896 : Int := (IntKind.wrap .u64 (v.2.1 - v.2.2.2.1))
      bif (v.2.2.2.1 == x1896) then
        let x1897 : Int := (Int.tmod v.2.2.1 (2 : Int))
        bif (x1897 == (1 : Int)) then
          let x1898 : Int := (IntKind.wrap .u64 (v.2.2.1 + (1 : Int)))
          bif (x1898 == (0 : Int)) then
            some ((0 : Int), false)
          else
            some (x1898, true)
        else
          some (v.2.2.1, true)
      else
        some (v.2.2.1, true)

def E63_0 (K : ((Int × Int × Int × Int × Int) → Option (Int × Bool))) (v : Int × Int) : Option (Int × Bool) :=
  K (v.1, (v.2, ((0 : Int), ((0 : Int), (95 : Int)))))

def K63_0 : Nat → ((Int × Int × Int × Int × Int) → Option (Int × Bool))
  | 0 => (fun _ => none)
  | n + 1 => (B63_0_4 (K63_0 n))
def fuel63_0 (v : Int × Int) : Nat := 1000
def F63_0 (v : Int × Int) : Option (Int × Bool) := E63_0 (K63_0 (fuel63_0 v)) v
noncomputable def k63_0 : List (Known Try.prog E) := []
def s63_0_4 : List (Nat × Pat) := [(0, .keep), (1, .keep), (6, .keep), (7, .keep), (8, .keep)]
noncomputable def L63_0 (n id : Nat) (st : St G) : Option (Int × Bool) := match Nat.beq id 4 with | true => cutK Try.prog s63_0_4 [] c63_0_4.dec (K63_0 n) st | false => none
set_option maxRecDepth 100000 in
theorem e63_0 (n : Nat) (v : Int × Int) : ev Try.prog E (oracle k63_0) Try.f63.ntmps (fun x => mem x [4]) (L63_0 n) (finF Try.prog E Try.f63.results.toList [[]] w63_0.alts) 4000 [.code (Try.f63.body.getD .skip)] (argSt (v63_0.enc v)) = E63_0 (K63_0 n) v := by kernel_rfl
set_option maxRecDepth 100000 in
theorem b63_0_4 (n : Nat) (v : Int × Int × Int × Int × Int) : evCut Try.prog E (oracle k63_0) false 63 Try.f63.ntmps (fun x => mem x [4]) (L63_0 n) (finF Try.prog E Try.f63.results.toList [[]] w63_0.alts) 4000 (todoAt (Try.f63.body.getD .skip) 4) (cutSt s63_0_4 (c63_0_4.enc v)) = B63_0_4 (K63_0 n) v := by kernel_rfl
theorem ok63_0 : FnOk Try.prog E 63 v63_0.enc F63_0 w63_0.enc :=
  fn_known (fn := Try.f63) (c := (Try.f63.body.getD .skip)) Try.func63 (by kernel_rfl) rfl envOk (oracle_ok k63_0) mixed v63_0 F63_0 w63_0 [] [[]] (by kernel_rfl) [4] 4000 L63_0 (by kernel_rfl)
    (List.forall_mem_cons.2 ⟨⟨_, [], s63_0_4, c63_0_4.dec, c63_0_4.enc, fun n => (K63_0 n), c63_0_4.ok, fun _ _ => rfl, fun _ => rfl, by kernel_rfl, fun n v _ h => (b63_0_4 n v).trans h⟩, fun _ h => (nomatch h)⟩) (fun v _ h => ⟨fuel63_0 v, (e63_0 _ v).trans h⟩) (fun _ => by kernel_rfl) (fun _ => by kernel_rfl) (fun _ _ => by kernel_rfl)
/- (*chicane/chicaneref02.M).Div -/
abbrev A34_0 : Type := (Int × Int) × Bool
abbrev R34_0 : Type := Int × Bool
def v34_0 : Pk G ((Int × Int) × Bool) := (pk (Sh.snd (Sh.cons (Sh.ptr 0 0) (Sh.cons (Sh.int .i64) (Sh.fst (Sh.cons (Sh.int .i64) Sh.nil))))) (Sh.fst (Sh.hfix 0 31 (Sh.fst (Sh.cons Sh.bool Sh.nil)) Sh.hnil)))
def w34_0 : Wk G (Int × Bool) := (Wk.one [.keep] (pk (Sh.fst (Sh.cons (Sh.int .i64) Sh.nil)) (Sh.fst (Sh.hfix 0 31 (Sh.fst (Sh.cons Sh.bool Sh.nil)) Sh.hnil))))
def F34_0 (v : (Int × Int) × Bool) : Option (Int × Bool) :=
  bif (v.1.2 == (0 : Int)) then
    bif (v.1.1 == (0 : Int)) then
      some ((0 : Int), true)
    else
      (F59_0 ((decide (v.1.1 < (0 : Int))), true)).bind fun r1908 =>
      some (r1908)
  else
    (F60_0 v.1.1).bind fun r1909 =>
    (F60_0 v.1.2).bind fun r1910 =>
    (F63_0 (r1909, r1910)).bind fun r1911 =>
    bif (!r1911.2) then
      (F59_0 ((!((decide (v.1.1 < (0 : Int))) == (decide (v.1.2 < (0 : Int))))), v.2)).bind fun r1912 =>
      some (r1912)
    else
      (F61_0 (((!((decide (v.1.1 < (0 : Int))) == (decide (v.1.2 < (0 : Int))))), r1911.1), v.2)).bind fun r1913 =>
      some (r1913)

noncomputable def k34_0 : List (Known Try.prog E) := [Known.of envOk [5, 2] [(.ptr 0 0 31 [.keep]), .keep] v59_0 F59_0 w59_0 ok59_0, Known.of envOk [1] [.keep] v60_0 F60_0 w60_0 ok60_0, Known.of envOk [1, 1] [.keep, .keep] v63_0 F63_0 w63_0 ok63_0, Known.of envOk [5, 2, 1] [(.ptr 0 0 31 [.keep]), .keep, .keep] v61_0 F61_0 w61_0 ok61_0]
noncomputable def L34_0 (n id : Nat) (st : St G) : Option (Int × Bool) := none
set_option maxRecDepth 100000 in
theorem e34_0 (n : Nat) (v : (Int × Int) × Bool) : ev Try.prog E (oracle k34_0) Try.f34.ntmps (fun x => mem x []) (L34_0 n) (finF Try.prog E Try.f34.results.toList [[(.ptr 0 0 31 [.keep])]] w34_0.alts) 4000 [.code (Try.f34.body.getD .skip)] (argSt (v34_0.enc v)) = F34_0 v := by kernel_rfl
theorem ok34_0 : FnOk Try.prog E 34 v34_0.enc F34_0 w34_0.enc :=
  fn_known (fn := Try.f34) (c := (Try.f34.body.getD .skip)) Try.func34 (by kernel_rfl) rfl envOk (oracle_ok k34_0) mixed v34_0 F34_0 w34_0 [(.ptr 0 0 31 [.keep])] [[(.ptr 0 0 31 [.keep])]] (by kernel_rfl) [] 4000 L34_0 (by kernel_rfl)
    (fun _ h => nomatch h) (fun v _ h => ⟨0, (e34_0 _ v).trans h⟩) (fun _ => by kernel_rfl) (fun _ => by kernel_rfl) (fun _ _ => by kernel_rfl)
/- chicane/chicaneref52.Bend -/
abbrev A9_0 : Type := ((Int × Int) × (Int × Int) × Int × Int) × Bool
abbrev R9_0 : Type := Int × Bool
def v9_0 : Pk G (((Int × Int) × (Int × Int) × Int × Int) × Bool) := (pk (Sh.snd (Sh.cons (Sh.ptr 0 0) (Sh.cons (Sh.agg (Sh.cons (Sh.int .i64) (Sh.fst (Sh.cons (Sh.int .i64) Sh.nil)))) (Sh.cons (Sh.agg (Sh.cons (Sh.int .i64) (Sh.fst (Sh.cons (Sh.int .i64) Sh.nil)))) (Sh.fst (Sh.cons (Sh.agg (Sh.cons (Sh.int .i64) (Sh.fst (Sh.cons (Sh.int .i64) Sh.nil)))) Sh.nil)))))) (Sh.fst (Sh.hfix 0 31 (Sh.fst (Sh.cons Sh.bool Sh.nil)) Sh.hnil)))
def w9_0 : Wk G (Int × Bool) := (Wk.one [.keep] (pk (Sh.fst (Sh.cons (Sh.int .i64) Sh.nil)) (Sh.fst (Sh.hfix 0 31 (Sh.fst (Sh.cons Sh.bool Sh.nil)) Sh.hnil))))
def F9_0 (v : ((Int × Int) × (Int × Int) × Int × Int) × Bool) : Option (Int × Bool) :=
  (F31_0 ((v.1.2.1.1, v.1.1.1), v.2)).bind fun r1930 =>
  (F31_0 ((v.1.2.1.2, v.1.1.2), r1930.2)).bind fun r1931 =>
  (F31_0 ((v.1.2.2.1, v.1.2.1.1), r1931.2)).bind fun r1932 =>
  (F31_0 ((v.1.2.2.2, v.1.2.1.2), r1932.2)).bind fun r1933 =>
  (F32_0 ((r1930.1, r1933.1), r1933.2)).bind fun r1934 =>
  (F32_0 ((r1931.1, r1932.1), r1934.2)).bind fun r1935 =>
  (F31_0 ((r1934.1, r1935.1), r1935.2)).bind fun r1936 =>
  (F33_0 ((v.1.1, v.1.2.1), r1936.2)).bind fun r1937 =>
  (F33_0 (v.1.2, r1937.2)).bind fun r1938 =>
  (F32_0 ((r1937.1, r1938.1), r1938.2)).bind fun r1939 =>
  (F33_0 ((v.1.2.2, v.1.1), r1939.2)).bind fun r1940 =>
  (F32_0 ((r1939.1, r1940.1), r1940.2)).bind fun r1941 =>
  bif (r1941.1 == (0 : Int)) then
    some ((0 : Int), r1941.2)
  else
    (F36_0 ((r1936.1, r1936.1), r1941.2)).bind fun r1942 =>
    (F35_0 r1942).bind fun r1943 =>
    (F34_0 ((r1943.1, r1941.1), r1943.2)).bind fun r1944 =>
    some (r1944)

noncomputable def k9_0 : List (Known Try.prog E) := [Known.of envOk [5, 1, 1] [(.ptr 0 0 31 [.keep]), .keep, .keep] v31_0 F31_0 w31_0 ok31_0, Known.of envOk [5, 1, 1] [(.ptr 0 0 31 [.keep]), .keep, .keep] v32_0 F32_0 w32_0 ok32_0, Known.of envOk [5, 9, 9] [(.ptr 0 0 31 [.keep]), (.agg [.keep, .keep]), (.agg [.keep, .keep])] v33_0 F33_0 w33_0 ok33_0, Known.of envOk [5, 1, 1] [(.ptr 0 0 31 [.keep]), .keep, .keep] v36_0 F36_0 w36_0 ok36_0, Known.of envOk [5, 1] [(.ptr 0 0 31 [.keep]), .keep] v35_0 F35_0 w35_0 ok35_0, Known.of envOk [5, 1, 1] [(.ptr 0 0 31 [.keep]), .keep, .keep] v34_0 F34_0 w34_0 ok34_0]
noncomputable def L9_0 (n id : Nat) (st : St G) : Option (Int × Bool) := none
set_option maxRecDepth 100000 in
theorem e9_0 (n : Nat) (v : ((Int × Int) × (Int × Int) × Int × Int) × Bool) : ev Try.prog E (oracle k9_0) Try.f9.ntmps (fun x => mem x []) (L9_0 n) (finF Try.prog E Try.f9.results.toList [[(.ptr 0 0 31 [.keep])]] w9_0.alts) 4000 [.code (Try.f9.body.getD .skip)] (argSt (v9_0.enc v)) = F9_0 v := by kernel_rfl
theorem ok9_0 : FnOk Try.prog E 9 v9_0.enc F9_0 w9_0.enc :=
  fn_known (fn := Try.f9) (c := (Try.f9.body.getD .skip)) Try.func9 (by kernel_rfl) rfl envOk (oracle_ok k9_0) mixed v9_0 F9_0 w9_0 [(.ptr 0 0 31 [.keep])] [[(.ptr 0 0 31 [.keep])]] (by kernel_rfl) [] 4000 L9_0 (by kernel_rfl)
    (fun _ h => nomatch h) (fun v _ h => ⟨0, (e9_0 _ v).trans h⟩) (fun _ => by kernel_rfl) (fun _ => by kernel_rfl) (fun _ _ => by kernel_rfl)
/- chicane/root.Sqrt -/
abbrev A24_0 : Type := Int
abbrev R24_0 : Type := Int
def v24_0 : Pk G Int := (Pk.fst (pk (Sh.fst (Sh.cons (Sh.int .i64) Sh.nil)) Sh.hnil))
def w24_0 : Wk G Int := (Wk.one [.keep] (Pk.fst (pk (Sh.fst (Sh.cons (Sh.int .i64) Sh.nil)) Sh.hnil)))
def F24_0 (v : Int) : Option Int :=
  (F55_0 (v, (4294967296 : Int))).bind fun r1953 =>
  (F54_0 r1953).bind fun r1954 =>
  let x1955 : Int := (IntKind.wrap .i64 r1954)
  some (x1955)

noncomputable def k24_0 : List (Known Try.prog E) := [Known.of envOk [1, 1] [.keep, .keep] v55_0 F55_0 w55_0 ok55_0, Known.of envOk [9] [(.agg [.keep, .keep])] v54_0 F54_0 w54_0 ok54_0]
noncomputable def L24_0 (n id : Nat) (st : St G) : Option Int := none
set_option maxRecDepth 100000 in
theorem e24_0 (n : Nat) (v : Int) : ev Try.prog E (oracle k24_0) Try.f24.ntmps (fun x => mem x []) (L24_0 n) (finF Try.prog E Try.f24.results.toList [[]] w24_0.alts) 4000 [.code (Try.f24.body.getD .skip)] (argSt (v24_0.enc v)) = F24_0 v := by kernel_rfl
theorem ok24_0 : FnOk Try.prog E 24 v24_0.enc F24_0 w24_0.enc :=
  fn_known (fn := Try.f24) (c := (Try.f24.body.getD .skip)) Try.func24 (by kernel_rfl) rfl envOk (oracle_ok k24_0) mixed v24_0 F24_0 w24_0 [] [[]] (by kernel_rfl) [] 4000 L24_0 (by kernel_rfl)
    (fun _ h => nomatch h) (fun v _ h => ⟨0, (e24_0 _ v).trans h⟩) (fun _ => by kernel_rfl) (fun _ => by kernel_rfl) (fun _ _ => by kernel_rfl)
/- chicane/profile.Limit -/
abbrev A10_0 : Type := (Int × Int × Int) × Bool
abbrev R10_0 : Type := Int × Bool
def v10_0 : Pk G ((Int × Int × Int) × Bool) := (pk (Sh.snd (Sh.cons (Sh.ptr 0 0) (Sh.cons (Sh.int .i64) (Sh.cons (Sh.int .i64) (Sh.fst (Sh.cons (Sh.int .i64) Sh.nil)))))) (Sh.fst (Sh.hfix 0 29 (Sh.fst (Sh.cons Sh.bool Sh.nil)) Sh.hnil)))
def w10_0 : Wk G (Int × Bool) := (Wk.one [.keep] (pk (Sh.fst (Sh.cons (Sh.int .i64) Sh.nil)) (Sh.fst (Sh.hfix 0 29 (Sh.fst (Sh.cons Sh.bool Sh.nil)) Sh.hnil))))
def F10_0 (v : (Int × Int × Int) × Bool) : Option (Int × Bool) :=
  bif (v.1.1 == (0 : Int)) then
    some (v.1.2.2, v.2)
  else
    (F29_0 ((v.1.2.1, v.1.1), v.2)).bind fun r1961 =>
    (F24_0 r1961.1).bind fun r1962 =>
    let x1963 : Int := (if r1962 < v.1.2.2 then r1962 else v.1.2.2)
    some (x1963, r1961.2)

noncomputable def k10_0 : List (Known Try.prog E) := [Known.of envOk [5, 1, 1] [(.ptr 0 0 29 [.keep]), .keep, .keep] v29_0 F29_0 w29_0 ok29_0, Known.of envOk [1] [.keep] v24_0 F24_0 w24_0 ok24_0]
noncomputable def L10_0 (n id : Nat) (st : St G) : Option (Int × Bool) := none
set_option maxRecDepth 100000 in
theorem e10_0 (n : Nat) (v : (Int × Int × Int) × Bool) : ev Try.prog E (oracle k10_0) Try.f10.ntmps (fun x => mem x []) (L10_0 n) (finF Try.prog E Try.f10.results.toList [[(.ptr 0 0 29 [.keep])]] w10_0.alts) 4000 [.code (Try.f10.body.getD .skip)] (argSt (v10_0.enc v)) = F10_0 v := by kernel_rfl
theorem ok10_0 : FnOk Try.prog E 10 v10_0.enc F10_0 w10_0.enc :=
  fn_known (fn := Try.f10) (c := (Try.f10.body.getD .skip)) Try.func10 (by kernel_rfl) rfl envOk (oracle_ok k10_0) mixed v10_0 F10_0 w10_0 [(.ptr 0 0 29 [.keep])] [[(.ptr 0 0 29 [.keep])]] (by kernel_rfl) [] 4000 L10_0 (by kernel_rfl)
    (fun _ h => nomatch h) (fun v _ h => ⟨0, (e10_0 _ v).trans h⟩) (fun _ => by kernel_rfl) (fun _ => by kernel_rfl) (fun _ _ => by kernel_rfl)
/- chicane/chicaneref03.Sqrt -/
abbrev A37_0 : Type := Int
abbrev R37_0 : Type := Int
def v37_0 : Pk G Int := (Pk.fst (pk (Sh.fst (Sh.cons (Sh.int .i64) Sh.nil)) Sh.hnil))
def w37_0 : Wk G Int := (Wk.one [.keep] (Pk.fst (pk (Sh.fst (Sh.cons (Sh.int .i64) Sh.nil)) Sh.hnil)))
def F37_0 (v : Int) : Option Int :=
  bif (decide (v ≤ (0 : Int))) then
    some (0 : Int)
  else
    (F66_0 (v, (4294967296 : Int))).bind fun r1972 =>
    (F65_0 r1972).bind fun r1973 =>
    let x1974 : Int := (IntKind.wrap .i64 r1973)
    some (x1974)

noncomputable def k37_0 : List (Known Try.prog E) := [Known.of envOk [1, 1] [.keep, .keep] v66_0 F66_0 w66_0 ok66_0, Known.of envOk [9] [(.agg [.keep, .keep, .keep, .keep, .keep])] v65_0 F65_0 w65_0 ok65_0]
noncomputable def L37_0 (n id : Nat) (st : St G) : Option Int := none
set_option maxRecDepth 100000 in
theorem e37_0 (n : Nat) (v : Int) : ev Try.prog E (oracle k37_0) Try.f37.ntmps (fun x => mem x []) (L37_0 n) (finF Try.prog E Try.f37.results.toList [[]] w37_0.alts) 4000 [.code (Try.f37.body.getD .skip)] (argSt (v37_0.enc v)) = F37_0 v := by kernel_rfl
theorem ok37_0 : FnOk Try.prog E 37 v37_0.enc F37_0 w37_0.enc :=
  fn_known (fn := Try.f37) (c := (Try.f37.body.getD .skip)) Try.func37 (by kernel_rfl) rfl envOk (oracle_ok k37_0) mixed v37_0 F37_0 w37_0 [] [[]] (by kernel_rfl) [] 4000 L37_0 (by kernel_rfl)
    (fun _ h => nomatch h) (fun v _ h => ⟨0, (e37_0 _ v).trans h⟩) (fun _ => by kernel_rfl) (fun _ => by kernel_rfl) (fun _ _ => by kernel_rfl)
/- chicane/chicaneref52.Limit -/
abbrev A11_0 : Type := (Int × Int × Int) × Bool
abbrev R11_0 : Type := Int × Bool
def v11_0 : Pk G ((Int × Int × Int) × Bool) := (pk (Sh.snd (Sh.cons (Sh.ptr 0 0) (Sh.cons (Sh.int .i64) (Sh.cons (Sh.int .i64) (Sh.fst (Sh.cons (Sh.int .i64) Sh.nil)))))) (Sh.fst (Sh.hfix 0 31 (Sh.fst (Sh.cons Sh.bool Sh.nil)) Sh.hnil)))
def w11_0 : Wk G (Int × Bool) := (Wk.one [.keep] (pk (Sh.fst (Sh.cons (Sh.int .i64) Sh.nil)) (Sh.fst (Sh.hfix 0 31 (Sh.fst (Sh.cons Sh.bool Sh.nil)) Sh.hnil))))
def F11_0 (v : (Int × Int × Int) × Bool) : Option (Int × Bool) :=
  bif (v.1.1 == (0 : Int)) then
    some (v.1.2.2, v.2)
  else
    (F34_0 ((v.1.2.1, v.1.1), v.2)).bind fun r1980 =>
    (F37_0 r1980.1).bind fun r1981 =>
    let x1982 : Int := (if v.1.2.2 < r1981 then v.1.2.2 else r1981)
    some (x1982, r1980.2)

noncomputable def k11_0 : List (Known Try.prog E) := [Known.of envOk [5, 1, 1] [(.ptr 0 0 31 [.keep]), .keep, .keep] v34_0 F34_0 w34_0 ok34_0, Known.of envOk [1] [.keep] v37_0 F37_0 w37_0 ok37_0]
noncomputable def L11_0 (n id : Nat) (st : St G) : Option (Int × Bool) := none
set_option maxRecDepth 100000 in
theorem e11_0 (n : Nat) (v : (Int × Int × Int) × Bool) : ev Try.prog E (oracle k11_0) Try.f11.ntmps (fun x => mem x []) (L11_0 n) (finF Try.prog E Try.f11.results.toList [[(.ptr 0 0 31 [.keep])]] w11_0.alts) 4000 [.code (Try.f11.body.getD .skip)] (argSt (v11_0.enc v)) = F11_0 v := by kernel_rfl
theorem ok11_0 : FnOk Try.prog E 11 v11_0.enc F11_0 w11_0.enc :=
  fn_known (fn := Try.f11) (c := (Try.f11.body.getD .skip)) Try.func11 (by kernel_rfl) rfl envOk (oracle_ok k11_0) mixed v11_0 F11_0 w11_0 [(.ptr 0 0 31 [.keep])] [[(.ptr 0 0 31 [.keep])]] (by kernel_rfl) [] 4000 L11_0 (by kernel_rfl)
    (fun _ h => nomatch h) (fun v _ h => ⟨0, (e11_0 _ v).trans h⟩) (fun _ => by kernel_rfl) (fun _ => by kernel_rfl) (fun _ _ => by kernel_rfl)
/- chicane/chicanelaw52.sample -/
abbrev A38_0 : Type := Unit
abbrev R38_0 : Type := (Int × Int × Int × Int) × List (Int × Int)
def v38_0 : Pk G Unit := (Pk.snd (pk Sh.nil Sh.hnil))
def w38_0 : Wk G ((Int × Int × Int × Int) × List (Int × Int)) := (Wk.one [(.own 0 24), (.agg [.keep, .keep, .keep, .keep])] (pk (Sh.snd (Sh.cons (Sh.osl 0) (Sh.fst (Sh.cons (Sh.agg (Sh.cons (Sh.int .i64) (Sh.cons (Sh.int .i64) (Sh.cons (Sh.int .i64) (Sh.fst (Sh.cons (Sh.int .i64) Sh.nil)))))) Sh.nil)))) (Sh.fst (Sh.hrow 0 24 Sh.hnil))))
def F38_0 (v : Unit) : Option ((Int × Int × Int × Int) × List (Int × Int)) :=
  some (((34359738368 : Int), ((17179869184 : Int), ((34359738368 : Int), (214748364800 : Int)))), ([((0 : Int), (0 : Int)), ((34359738368 : Int), (0 : Int)), ((34359738368 : Int), (34359738368 : Int)), ((0 : Int), (34359738368 : Int))] : List (Int × Int)))

noncomputable def k38_0 : List (Known Try.prog E) := []
noncomputable def L38_0 (n id : Nat) (st : St G) : Option ((Int × Int × Int × Int) × List (Int × Int)) := none
set_option maxRecDepth 100000 in
theorem e38_0 (n : Nat) (v : Unit) : ev Try.prog E (oracle k38_0) Try.f38.ntmps (fun x => mem x []) (L38_0 n) (finF Try.prog E Try.f38.results.toList [[]] w38_0.alts) 4000 [.code (Try.f38.body.getD .skip)] (argSt (v38_0.enc v)) = F38_0 v := by kernel_rfl
theorem ok38_0 : FnOk Try.prog E 38 v38_0.enc F38_0 w38_0.enc :=
  fn_known (fn := Try.f38) (c := (Try.f38.body.getD .skip)) Try.func38 (by kernel_rfl) rfl envOk (oracle_ok k38_0) mixed v38_0 F38_0 w38_0 [] [[]] (by kernel_rfl) [] 4000 L38_0 (by kernel_rfl)
    (fun _ h => nomatch h) (fun v _ h => ⟨0, (e38_0 _ v).trans h⟩) (fun _ => by kernel_rfl) (fun _ => by kernel_rfl) (fun _ _ => by kernel_rfl)
/- chicane/fx.Clamp -/
abbrev A45_0 : Type := Int × Int × Int
abbrev R45_0 : Type := Int
def v45_0 : Pk G (Int × Int × Int) := (Pk.fst (pk (Sh.cons (Sh.int .i64) (Sh.cons (Sh.int .i64) (Sh.fst (Sh.cons (Sh.int .i64) Sh.nil)))) Sh.hnil))
def w45_0 : Wk G Int := (Wk.one [.keep] (Pk.fst (pk (Sh.fst (Sh.cons (Sh.int .i64) Sh.nil)) Sh.hnil)))
def F45_0 (v : Int × Int × Int) : Option Int :=
  bif (decide (v.1 < v.2.1)) then
    some (v.2.1)
  else
    bif (decide (v.1 > v.2.2)) then
      some (v.2.2)
    else
      some (v.1)

noncomputable def k45_0 : List (Known Try.prog E) := []
noncomputable def L45_0 (n id : Nat) (st : St G) : Option Int := none
set_option maxRecDepth 100000 in
theorem e45_0 (n : Nat) (v : Int × Int × Int) : ev Try.prog E (oracle k45_0) Try.f45.ntmps (fun x => mem x []) (L45_0 n) (finF Try.prog E Try.f45.results.toList [[]] w45_0.alts) 4000 [.code (Try.f45.body.getD .skip)] (argSt (v45_0.enc v)) = F45_0 v := by kernel_rfl
theorem ok45_0 : FnOk Try.prog E 45 v45_0.enc F45_0 w45_0.enc :=
  fn_known (fn := Try.f45) (c := (Try.f45.body.getD .skip)) Try.func45 (by kernel_rfl) rfl envOk (oracle_ok k45_0) mixed v45_0 F45_0 w45_0 [] [[]] (by kernel_rfl) [] 4000 L45_0 (by kernel_rfl)
    (fun _ h => nomatch h) (fun v _ h => ⟨0, (e45_0 _ v).trans h⟩) (fun _ => by kernel_rfl) (fun _ => by kernel_rfl) (fun _ _ => by kernel_rfl)
/- chicane/profile.Right$1 -/
abbrev A44_0 : Type := Int × Int × Int
abbrev R44_0 : Type := Bool
def v44_0 : Pk G (Int × Int × Int) := (Pk.fst (pk (Sh.cons (Sh.int .i64) (Sh.cons (Sh.int .i64) (Sh.fst (Sh.cons (Sh.int .i64) Sh.nil)))) Sh.hnil))
def w44_0 : Wk G Bool := (Wk.one [.keep] (Pk.fst (pk (Sh.fst (Sh.cons Sh.bool Sh.nil)) Sh.hnil)))
def F44_0 (v : Int × Int × Int) : Option Bool :=
  (F45_0 v).bind fun r1987 =>
  some (r1987 == v.1)

noncomputable def k44_0 : List (Known Try.prog E) := [Known.of envOk [1, 1, 1] [.keep, .keep, .keep] v45_0 F45_0 w45_0 ok45_0]
noncomputable def L44_0 (n id : Nat) (st : St G) : Option Bool := none
set_option maxRecDepth 100000 in
theorem e44_0 (n : Nat) (v : Int × Int × Int) : ev Try.prog E (oracle k44_0) Try.f44.ntmps (fun x => mem x []) (L44_0 n) (finF Try.prog E Try.f44.results.toList [[]] w44_0.alts) 4000 [.code (Try.f44.body.getD .skip)] (argSt (v44_0.enc v)) = F44_0 v := by kernel_rfl
theorem ok44_0 : FnOk Try.prog E 44 v44_0.enc F44_0 w44_0.enc :=
  fn_known (fn := Try.f44) (c := (Try.f44.body.getD .skip)) Try.func44 (by kernel_rfl) rfl envOk (oracle_ok k44_0) mixed v44_0 F44_0 w44_0 [] [[]] (by kernel_rfl) [] 4000 L44_0 (by kernel_rfl)
    (fun _ h => nomatch h) (fun v _ h => ⟨0, (e44_0 _ v).trans h⟩) (fun _ => by kernel_rfl) (fun _ => by kernel_rfl) (fun _ _ => by kernel_rfl)
/- chicane/profile.Right -/
abbrev A14_0 : Type := Int × Int × Int × Int
abbrev R14_0 : Type := Int
def v14_0 : Pk G (Int × Int × Int × Int) := (Pk.fst (pk (Sh.fst (Sh.cons (Sh.agg (Sh.cons (Sh.int .i64) (Sh.cons (Sh.int .i64) (Sh.cons (Sh.int .i64) (Sh.fst (Sh.cons (Sh.int .i64) Sh.nil)))))) Sh.nil)) Sh.hnil))
def w14_0 : Wk G Int := (Wk.one [.keep] (Pk.fst (pk (Sh.fst (Sh.cons (Sh.int .i64) Sh.nil)) Sh.hnil)))
def F14_0 (v : Int × Int × Int × Int) : Option Int :=
  (F44_0 (v.1, ((268435456 : Int), (274877906944 : Int)))).bind fun r1996 =>
  bif (!r1996) then
    some (40 : Int)
  else
    (F44_0 (v.2.1, ((0 : Int), (274877906944 : Int)))).bind fun r1997 =>
    bif (!r1997) then
      some (40 : Int)
    else
      (F44_0 (v.2.2.1, ((0 : Int), (274877906944 : Int)))).bind fun r1998 =>
      bif (!r1998) then
        some (40 : Int)
      else
        (F44_0 (v.2.2.2, ((4294967296 : Int), (549755813888 : Int)))).bind fun r1999 =>
        bif (!r1999) then
          some (40 : Int)
        else
          some (0 : Int)

noncomputable def k14_0 : List (Known Try.prog E) := [Known.of envOk [1, 1, 1] [.keep, .keep, .keep] v44_0 F44_0 w44_0 ok44_0]
noncomputable def L14_0 (n id : Nat) (st : St G) : Option Int := none
set_option maxRecDepth 100000 in
theorem e14_0 (n : Nat) (v : Int × Int × Int × Int) : ev Try.prog E (oracle k14_0) Try.f14.ntmps (fun x => mem x []) (L14_0 n) (finF Try.prog E Try.f14.results.toList [[]] w14_0.alts) 4000 [.code (Try.f14.body.getD .skip)] (argSt (v14_0.enc v)) = F14_0 v := by kernel_rfl
theorem ok14_0 : FnOk Try.prog E 14 v14_0.enc F14_0 w14_0.enc :=
  fn_known (fn := Try.f14) (c := (Try.f14.body.getD .skip)) Try.func14 (by kernel_rfl) rfl envOk (oracle_ok k14_0) mixed v14_0 F14_0 w14_0 [] [[]] (by kernel_rfl) [] 4000 L14_0 (by kernel_rfl)
    (fun _ h => nomatch h) (fun v _ h => ⟨0, (e14_0 _ v).trans h⟩) (fun _ => by kernel_rfl) (fun _ => by kernel_rfl) (fun _ _ => by kernel_rfl)
/- (chicane/profile.loop).next -/
abbrev A40_0 : Type := ((List (Int × Int)) × List Int) × Int
abbrev R40_0 : Type := Int
def v40_0 : Pk G (((List (Int × Int)) × List Int) × Int) := (Pk.fst (pk (Sh.cons (Sh.agg (Sh.cons (Sh.ros 24) (Sh.fst (Sh.cons (Sh.ros 22) Sh.nil)))) (Sh.fst (Sh.cons (Sh.int .i64) Sh.nil))) Sh.hnil))
def w40_0 : Wk G Int := (Wk.one [.keep] (Pk.fst (pk (Sh.fst (Sh.cons (Sh.int .i64) Sh.nil)) Sh.hnil)))
def F40_0 (v : ((List (Int × Int)) × List Int) × Int) : Option Int :=
  let x2007 : Int := (IntKind.wrap .i64 (v.2 + (1 : Int)))
  (chk (((v.1.1).length : Int) != 0)).bind fun _ =>
  let x2008 : Int := (Int.tmod x2007 ((v.1.1).length : Int))
  some (x2008)

noncomputable def k40_0 : List (Known Try.prog E) := []
noncomputable def L40_0 (n id : Nat) (st : St G) : Option Int := none
set_option maxRecDepth 100000 in
theorem e40_0 (n : Nat) (v : ((List (Int × Int)) × List Int) × Int) : ev Try.prog E (oracle k40_0) Try.f40.ntmps (fun x => mem x []) (L40_0 n) (finF Try.prog E Try.f40.results.toList [[]] w40_0.alts) 4000 [.code (Try.f40.body.getD .skip)] (argSt (v40_0.enc v)) = F40_0 v := by kernel_rfl
theorem ok40_0 : FnOk Try.prog E 40 v40_0.enc F40_0 w40_0.enc :=
  fn_known (fn := Try.f40) (c := (Try.f40.body.getD .skip)) Try.func40 (by kernel_rfl) rfl envOk (oracle_ok k40_0) mixed v40_0 F40_0 w40_0 [] [[]] (by kernel_rfl) [] 4000 L40_0 (by kernel_rfl)
    (fun _ h => nomatch h) (fun v _ h => ⟨0, (e40_0 _ v).trans h⟩) (fun _ => by kernel_rfl) (fun _ => by kernel_rfl) (fun _ _ => by kernel_rfl)
/- chicane/profile.looped -/
abbrev A39_0 : Type := (List (Int × Int)) × Bool
abbrev R39_0 : Type := (List (Int × Int)) × List Int × Bool
def v39_0 : Pk G ((List (Int × Int)) × Bool) := (pk (Sh.snd (Sh.cons (Sh.ptr 0 0) (Sh.fst (Sh.cons (Sh.ros 24) Sh.nil)))) (Sh.fst (Sh.hfix 0 29 (Sh.fst (Sh.cons Sh.bool Sh.nil)) Sh.hnil)))
def w39_0 : Wk G ((List (Int × Int)) × List Int × Bool) := (Wk.one [(.agg [(.ros 24), (.own 1 22)])] (pk (Sh.fst (Sh.cons (Sh.agg (Sh.fst (Sh.cons (Sh.ros 24) (Sh.snd (Sh.cons (Sh.osl 1) Sh.nil))))) Sh.nil)) (Sh.hrow 1 22 (Sh.fst (Sh.hfix 0 29 (Sh.fst (Sh.cons Sh.bool Sh.nil)) Sh.hnil)))))
def c39_0_3 : Pk G (((List (Int × Int)) × (List (Int × Int)) × Int × Int) × (List (Int × Int)) × List Int × List Int × (List (Int × Int)) × Bool) := (pk (Sh.snd (Sh.cons (Sh.ptr 0 0) (Sh.cons (Sh.ros 24) (Sh.snd (Sh.cons (Sh.ptr 1 0) (Sh.snd (Sh.cons (Sh.ptr 4 0) (Sh.cons (Sh.ros 24) (Sh.cons (Sh.int .i64) (Sh.fst (Sh.cons (Sh.int .i64) Sh.nil))))))))))) (Sh.hfix 4 64 (Sh.fst (Sh.cons (Sh.ros 24) (Sh.snd (Sh.cons (Sh.osl 5) Sh.nil)))) (Sh.hrow 5 22 (Sh.snd (Sh.hfix 1 64 (Sh.snd (Sh.cons (Sh.osl 2) (Sh.snd (Sh.cons (Sh.osl 3) Sh.nil)))) (Sh.hrow 3 22 (Sh.hrow 2 24 (Sh.fst (Sh.hfix 0 29 (Sh.fst (Sh.cons Sh.bool Sh.nil)) Sh.hnil)))))))))
def B39_0_3 (K : ((((List (Int × Int)) × (List (Int × Int)) × Int × Int) × (List (Int × Int)) × List Int × List Int × (List (Int × Int)) × Bool) → Option ((List (Int × Int)) × List Int × Bool))) (v : ((List (Int × Int)) × (List (Int × Int)) × Int × Int) × (List (Int × Int)) × List Int × List Int × (List (Int × Int)) × Bool) : Option ((List (Int × Int)) × List Int × Bool) :=
  bif (decide (v.1.2.2.2 < v.1.2.2.1)) then
    (rdx v.1.2.1 v.1.2.2.2).bind fun (x2021 : Int × Int) =>
    (F40_0 ((v.2.1, v.2.2.1), v.1.2.2.2)).bind fun r2022 =>
    (rdx v.1.1 r2022).bind fun (x2023 : Int × Int) =>
    (F28_0 ((x2021, x2023), v.2.2.2.2.2)).bind fun r2024 =>
    (chk (decide (((v.2.2.1).length + (([r2024.1] : List Int)).length) * 8 ≤ 140737488355328))).bind fun _ =>
    let x2025 : List Int := (v.2.2.1 ++ ([r2024.1] : List Int))
    let x2026 : Int := (IntKind.wrap .i64 (v.1.2.2.2 + (1 : Int)))
    K ((v.1.1, (v.1.2.1, (v.1.2.2.1, x2026))), (v.2.1, (x2025, (v.2.2.2.1, (v.2.2.2.2.1, r2024.2)))))
  else
    some (v.2.1, (v.2.2.1, v.2.2.2.2.2))

def E39_0 (K : ((((List (Int × Int)) × (List (Int × Int)) × Int × Int) × (List (Int × Int)) × List Int × List Int × (List (Int × Int)) × Bool) → Option ((List (Int × Int)) × List Int × Bool))) (v : (List (Int × Int)) × Bool) : Option ((List (Int × Int)) × List Int × Bool) :=
  K ((v.1, (v.1, (((v.1).length : Int), (0 : Int)))), (v.1, (([] : List Int), (([] : List Int), (([] : List (Int × Int)), v.2)))))

def K39_0 : Nat → ((((List (Int × Int)) × (List (Int × Int)) × Int × Int) × (List (Int × Int)) × List Int × List Int × (List (Int × Int)) × Bool) → Option ((List (Int × Int)) × List Int × Bool))
  | 0 => (fun _ => none)
  | n + 1 => (B39_0_3 (K39_0 n))
def fuel39_0 (v : (List (Int × Int)) × Bool) : Nat := 1000
def F39_0 (v : (List (Int × Int)) × Bool) : Option ((List (Int × Int)) × List Int × Bool) := E39_0 (K39_0 (fuel39_0 v)) v
noncomputable def k39_0 : List (Known Try.prog E) := [Known.of envOk [9, 1] [(.agg [(.ros 24), (.ros 22)]), .keep] v40_0 F40_0 w40_0 ok40_0, Known.of envOk [5, 9, 9] [(.ptr 0 0 29 [.keep]), (.agg [.keep, .keep]), (.agg [.keep, .keep])] v28_0 F28_0 w28_0 ok28_0]
def s39_0_3 : List (Nat × Pat) := [(0, (.ptr 0 0 29 [])), (1, (.ros 24)), (4, (.ptr 1 0 64 [(.own 2 24), (.own 3 22)])), (5, (.ptr 4 0 64 [(.ros 24), (.own 5 22)])), (10, (.ros 24)), (11, .keep), (12, .keep)]
noncomputable def L39_0 (n id : Nat) (st : St G) : Option ((List (Int × Int)) × List Int × Bool) := match Nat.beq id 3 with | true => cutK Try.prog s39_0_3 [(.ptr 0 0 29 [.keep])] c39_0_3.dec (K39_0 n) st | false => none
set_option maxRecDepth 100000 in
theorem e39_0 (n : Nat) (v : (List (Int × Int)) × Bool) : ev Try.prog E (oracle k39_0) Try.f39.ntmps (fun x => mem x [3]) (L39_0 n) (finF Try.prog E Try.f39.results.toList [[(.ptr 0 0 29 [.keep])]] w39_0.alts) 4000 [.code (Try.f39.body.getD .skip)] (argSt (v39_0.enc v)) = E39_0 (K39_0 n) v := by kernel_rfl
set_option maxRecDepth 100000 in
theorem b39_0_3 (n : Nat) (v : ((List (Int × Int)) × (List (Int × Int)) × Int × Int) × (List (Int × Int)) × List Int × List Int × (List (Int × Int)) × Bool) : evCut Try.prog E (oracle k39_0) false 39 Try.f39.ntmps (fun x => mem x [3]) (L39_0 n) (finF Try.prog E Try.f39.results.toList [[(.ptr 0 0 29 [.keep])]] w39_0.alts) 4000 (todoAt (Try.f39.body.getD .skip) 3) (cutSt s39_0_3 (c39_0_3.enc v)) = B39_0_3 (K39_0 n) v := by kernel_rfl
theorem ok39_0 : FnOk Try.prog E 39 v39_0.enc F39_0 w39_0.enc :=
  fn_known (fn := Try.f39) (c := (Try.f39.body.getD .skip)) Try.func39 (by kernel_rfl) rfl envOk (oracle_ok k39_0) mixed v39_0 F39_0 w39_0 [(.ptr 0 0 29 [.keep])] [[(.ptr 0 0 29 [.keep])]] (by kernel_rfl) [3] 4000 L39_0 (by kernel_rfl)
    (List.forall_mem_cons.2 ⟨⟨_, [(.ptr 0 0 29 [.keep])], s39_0_3, c39_0_3.dec, c39_0_3.enc, fun n => (K39_0 n), c39_0_3.ok, fun _ _ => rfl, fun _ => rfl, by kernel_rfl, fun n v _ h => (b39_0_3 n v).trans h⟩, fun _ h => (nomatch h)⟩) (fun v _ h => ⟨fuel39_0 v, (e39_0 _ v).trans h⟩) (fun _ => by kernel_rfl) (fun _ => by kernel_rfl) (fun _ _ => by kernel_rfl)
/- (chicane/profile.loop).twice -/
abbrev A41_0 : Type := (List (Int × Int)) × List Int
abbrev R41_0 : Type := (List (Int × Int)) × List Int
def v41_0 : Pk G ((List (Int × Int)) × List Int) := (Pk.fst (pk (Sh.fst (Sh.cons (Sh.agg (Sh.cons (Sh.ros 24) (Sh.fst (Sh.cons (Sh.ros 22) Sh.nil)))) Sh.nil)) Sh.hnil))
def w41_0 : Wk G ((List (Int × Int)) × List Int) := (Wk.one [(.fn (.func 67) [] [(.ptr 0 0 64 [(.ros 24), (.ros 22)])])] (Pk.snd (pk (Sh.snd (Sh.cons (Sh.snd (Sh.fn (.func 67) Sh.nil (Sh.snd (Sh.cons (Sh.ptr 0 0) Sh.nil)))) Sh.nil)) (Sh.fst (Sh.hfix 0 64 (Sh.cons (Sh.ros 24) (Sh.fst (Sh.cons (Sh.ros 22) Sh.nil))) Sh.hnil)))))
def F41_0 (v : (List (Int × Int)) × List Int) : Option ((List (Int × Int)) × List Int) :=
  some (v)

noncomputable def k41_0 : List (Known Try.prog E) := []
noncomputable def L41_0 (n id : Nat) (st : St G) : Option ((List (Int × Int)) × List Int) := none
set_option maxRecDepth 100000 in
theorem e41_0 (n : Nat) (v : (List (Int × Int)) × List Int) : ev Try.prog E (oracle k41_0) Try.f41.ntmps (fun x => mem x []) (L41_0 n) (finF Try.prog E Try.f41.results.toList [[]] w41_0.alts) 4000 [.code (Try.f41.body.getD .skip)] (argSt (v41_0.enc v)) = F41_0 v := by kernel_rfl
theorem ok41_0 : FnOk Try.prog E 41 v41_0.enc F41_0 w41_0.enc :=
  fn_known (fn := Try.f41) (c := (Try.f41.body.getD .skip)) Try.func41 (by kernel_rfl) rfl envOk (oracle_ok k41_0) mixed v41_0 F41_0 w41_0 [] [[]] (by kernel_rfl) [] 4000 L41_0 (by kernel_rfl)
    (fun _ h => nomatch h) (fun v _ h => ⟨0, (e41_0 _ v).trans h⟩) (fun _ => by kernel_rfl) (fun _ => by kernel_rfl) (fun _ _ => by kernel_rfl)
/- (chicane/profile.loop).twice -/
abbrev A41_1 : Type := (List (Int × Int)) × List Int
abbrev R41_1 : Type := (List (Int × Int)) × List Int
def v41_1 : Pk G ((List (Int × Int)) × List Int) := (pk (Sh.fst (Sh.cons (Sh.agg (Sh.fst (Sh.cons (Sh.ros 24) (Sh.snd (Sh.cons (Sh.osl 0) Sh.nil))))) Sh.nil)) (Sh.fst (Sh.hrow 0 22 Sh.hnil)))
def w41_1 : Wk G ((List (Int × Int)) × List Int) := (Wk.one [(.fn (.func 67) [] [(.ptr 1 0 64 [(.ros 24), (.own 0 22)])])] (Pk.snd (pk (Sh.snd (Sh.cons (Sh.snd (Sh.fn (.func 67) Sh.nil (Sh.snd (Sh.cons (Sh.ptr 1 0) Sh.nil)))) Sh.nil)) (Sh.hfix 1 64 (Sh.fst (Sh.cons (Sh.ros 24) (Sh.snd (Sh.cons (Sh.osl 0) Sh.nil)))) (Sh.fst (Sh.hrow 0 22 Sh.hnil))))))
def F41_1 (v : (List (Int × Int)) × List Int) : Option ((List (Int × Int)) × List Int) :=
  some (v)

noncomputable def k41_1 : List (Known Try.prog E) := []
noncomputable def L41_1 (n id : Nat) (st : St G) : Option ((List (Int × Int)) × List Int) := none
set_option maxRecDepth 100000 in
theorem e41_1 (n : Nat) (v : (List (Int × Int)) × List Int) : ev Try.prog E (oracle k41_1) Try.f41.ntmps (fun x => mem x []) (L41_1 n) (finF Try.prog E Try.f41.results.toList [[(.own 0 22)]] w41_1.alts) 4000 [.code (Try.f41.body.getD .skip)] (argSt (v41_1.enc v)) = F41_1 v := by kernel_rfl
theorem ok41_1 : FnOk Try.prog E 41 v41_1.enc F41_1 w41_1.enc :=
  fn_known (fn := Try.f41) (c := (Try.f41.body.getD .skip)) Try.func41 (by kernel_rfl) rfl envOk (oracle_ok k41_1) mixed v41_1 F41_1 w41_1 [(.own 0 22)] [[(.own 0 22)]] (by kernel_rfl) [] 4000 L41_1 (by kernel_rfl)
    (fun _ h => nomatch h) (fun v _ h => ⟨0, (e41_1 _ v).trans h⟩) (fun _ => by kernel_rfl) (fun _ => by kernel_rfl) (fun _ _ => by kernel_rfl)
/- chicane/profile.reach -/
abbrev A42_0 : Type := (Int × Int × Int) × Bool
abbrev R42_0 : Type := Int × Bool
def v42_0 : Pk G ((Int × Int × Int) × Bool) := (pk (Sh.snd (Sh.cons (Sh.ptr 0 0) (Sh.cons (Sh.int .i64) (Sh.cons (Sh.int .i64) (Sh.fst (Sh.cons (Sh.int .i64) Sh.nil)))))) (Sh.fst (Sh.hfix 0 29 (Sh.fst (Sh.cons Sh.bool Sh.nil)) Sh.hnil)))
def w42_0 : Wk G (Int × Bool) := (Wk.one [.keep] (pk (Sh.fst (Sh.cons (Sh.int .i64) Sh.nil)) (Sh.fst (Sh.hfix 0 29 (Sh.fst (Sh.cons Sh.bool Sh.nil)) Sh.hnil))))
def F42_0 (v : (Int × Int × Int) × Bool) : Option (Int × Bool) :=
  (F26_0 ((v.1.1, v.1.1), v.2)).bind fun r2064 =>
  (F25_0 ((v.1.2.1, v.1.2.1), r2064.2)).bind fun r2065 =>
  (F26_0 ((r2065.1, v.1.2.2), r2065.2)).bind fun r2066 =>
  (F25_0 ((r2064.1, r2066.1), r2066.2)).bind fun r2067 =>
  (F24_0 r2067.1).bind fun r2068 =>
  some (r2068, r2067.2)

noncomputable def k42_0 : List (Known Try.prog E) := [Known.of envOk [5, 1, 1] [(.ptr 0 0 29 [.keep]), .keep, .keep] v26_0 F26_0 w26_0 ok26_0, Known.of envOk [5, 1, 1] [(.ptr 0 0 29 [.keep]), .keep, .keep] v25_0 F25_0 w25_0 ok25_0, Known.of envOk [1] [.keep] v24_0 F24_0 w24_0 ok24_0]
noncomputable def L42_0 (n id : Nat) (st : St G) : Option (Int × Bool) := none
set_option maxRecDepth 100000 in
theorem e42_0 (n : Nat) (v : (Int × Int × Int) × Bool) : ev Try.prog E (oracle k42_0) Try.f42.ntmps (fun x => mem x []) (L42_0 n) (finF Try.prog E Try.f42.results.toList [[(.ptr 0 0 29 [.keep])]] w42_0.alts) 4000 [.code (Try.f42.body.getD .skip)] (argSt (v42_0.enc v)) = F42_0 v := by kernel_rfl
theorem ok42_0 : FnOk Try.prog E 42 v42_0.enc F42_0 w42_0.enc :=
  fn_known (fn := Try.f42) (c := (Try.f42.body.getD .skip)) Try.func42 (by kernel_rfl) rfl envOk (oracle_ok k42_0) mixed v42_0 F42_0 w42_0 [(.ptr 0 0 29 [.keep])] [[(.ptr 0 0 29 [.keep])]] (by kernel_rfl) [] 4000 L42_0 (by kernel_rfl)
    (fun _ h => nomatch h) (fun v _ h => ⟨0, (e42_0 _ v).trans h⟩) (fun _ => by kernel_rfl) (fun _ => by kernel_rfl) (fun _ _ => by kernel_rfl)
/- chicane/profile.Speeds#round14 -/
abbrev A13326_y0 : Type := (Int × Int) × List Int × (List (Int × Int)) × List Int × (Int × Int × Int × Int) × Bool
abbrev R13326_y0 : Type := Bool × (List (Int × Int)) × (Int × Int × Int × Int) × Bool × List Int × List Int
def v13326_y0 : Pk G ((Int × Int) × List Int × (List (Int × Int)) × List Int × (Int × Int × Int × Int) × Bool) := (pk (Sh.snd (Sh.cons (Sh.yld 0) (Sh.cons (Sh.int .i64) (Sh.fst (Sh.cons (Sh.int .i64) Sh.nil))))) (Sh.snd (Sh.hlp 0 13326 .ready (Sh.snd (Sh.cons Sh.any (Sh.snd (Sh.cons Sh.any (Sh.snd (Sh.cons Sh.any (Sh.snd (Sh.cons (Sh.ptr 1 0) (Sh.snd (Sh.cons Sh.any (Sh.snd (Sh.cons (Sh.ptr 3 0) (Sh.snd (Sh.cons Sh.any (Sh.snd (Sh.cons (Sh.ptr 4 0) (Sh.snd (Sh.cons (Sh.ptr 6 0) (Sh.snd (Sh.cons Sh.any (Sh.snd (Sh.cons Sh.any (Sh.snd (Sh.cons Sh.any (Sh.snd (Sh.cons Sh.any (Sh.snd (Sh.cons Sh.any (Sh.snd (Sh.cons Sh.any (Sh.snd (Sh.cons Sh.any (Sh.snd (Sh.cons Sh.any (Sh.snd (Sh.cons Sh.any (Sh.snd (Sh.cons Sh.any (Sh.snd (Sh.cons Sh.any (Sh.snd (Sh.cons Sh.any (Sh.snd (Sh.cons Sh.any (Sh.snd (Sh.cons Sh.any (Sh.snd (Sh.cons Sh.any (Sh.snd (Sh.cons Sh.any (Sh.snd (Sh.cons Sh.any (Sh.snd (Sh.cons Sh.any (Sh.snd (Sh.cons Sh.any (Sh.snd (Sh.cons Sh.any (Sh.snd (Sh.cons Sh.any (Sh.snd (Sh.cons Sh.any (Sh.snd (Sh.cons Sh.any (Sh.snd (Sh.cons Sh.any (Sh.snd (Sh.cons Sh.any (Sh.snd (Sh.cons Sh.any (Sh.snd (Sh.cons Sh.any (Sh.snd (Sh.cons Sh.any (Sh.snd (Sh.cons Sh.any (Sh.snd (Sh.cons Sh.any (Sh.snd (Sh.cons Sh.any (Sh.snd (Sh.cons Sh.any (Sh.snd (Sh.cons Sh.any (Sh.snd (Sh.cons Sh.any (Sh.snd (Sh.cons Sh.any (Sh.snd (Sh.cons Sh.any (Sh.snd (Sh.cons Sh.any (Sh.snd (Sh.cons Sh.any (Sh.snd (Sh.cons Sh.any (Sh.snd (Sh.cons Sh.any (Sh.snd (Sh.cons Sh.any (Sh.snd (Sh.cons Sh.any (Sh.snd (Sh.cons Sh.any (Sh.snd (Sh.cons Sh.any (Sh.snd (Sh.cons Sh.any (Sh.snd (Sh.cons Sh.any (Sh.snd (Sh.cons Sh.any (Sh.snd (Sh.cons Sh.any (Sh.snd (Sh.cons Sh.any (Sh.snd (Sh.cons Sh.any (Sh.snd (Sh.cons Sh.any (Sh.snd (Sh.cons Sh.any (Sh.snd (Sh.cons Sh.any (Sh.snd (Sh.cons Sh.any (Sh.snd (Sh.cons Sh.any (Sh.snd (Sh.cons Sh.any (Sh.snd (Sh.cons Sh.any (Sh.snd (Sh.cons Sh.any (Sh.snd (Sh.cons Sh.any (Sh.snd (Sh.cons Sh.any (Sh.snd (Sh.cons Sh.any (Sh.snd (Sh.cons Sh.any (Sh.snd (Sh.cons Sh.any (Sh.snd (Sh.cons Sh.any (Sh.snd (Sh.cons Sh.any (Sh.snd (Sh.cons Sh.any (Sh.snd (Sh.cons Sh.any (Sh.snd (Sh.cons Sh.any (Sh.snd (Sh.cons Sh.any (Sh.snd (Sh.cons Sh.any (Sh.snd (Sh.cons Sh.any (Sh.snd (Sh.cons Sh.any (Sh.snd (Sh.cons Sh.any (Sh.snd (Sh.cons Sh.any (Sh.snd (Sh.cons Sh.any (Sh.snd (Sh.cons Sh.any (Sh.snd (Sh.cons Sh.any (Sh.snd (Sh.cons Sh.any (Sh.snd (Sh.cons Sh.any (Sh.snd (Sh.cons Sh.any (Sh.snd (Sh.cons Sh.any (Sh.snd (Sh.cons Sh.any (Sh.snd (Sh.cons Sh.any (Sh.snd (Sh.cons Sh.any (Sh.snd (Sh.cons Sh.any (Sh.snd (Sh.cons Sh.any (Sh.snd (Sh.cons Sh.any (Sh.snd (Sh.cons Sh.any (Sh.snd (Sh.cons Sh.any (Sh.snd (Sh.cons Sh.any (Sh.snd (Sh.cons Sh.any (Sh.snd (Sh.cons Sh.any (Sh.snd (Sh.cons Sh.any (Sh.snd (Sh.cons Sh.any (Sh.snd (Sh.cons Sh.any (Sh.snd (Sh.cons Sh.any (Sh.snd (Sh.cons Sh.any (Sh.snd (Sh.cons Sh.any (Sh.snd (Sh.cons Sh.any (Sh.snd (Sh.cons Sh.any (Sh.snd (Sh.cons Sh.any (Sh.snd (Sh.cons Sh.any (Sh.snd (Sh.cons Sh.any (Sh.snd (Sh.cons Sh.any (Sh.snd (Sh.cons Sh.any (Sh.snd (Sh.cons Sh.any (Sh.snd (Sh.cons Sh.any (Sh.snd (Sh.cons Sh.any (Sh.snd (Sh.cons Sh.any (Sh.snd (Sh.cons Sh.any Sh.nil)))))))))))))))))))))))))))))))))))))))))))))))))))))))))))))))))))))))))))))))))))))))))))))))))))))))))))))))))))))))))))))))))))))))))))))))))))))))))))))))))))))))))))))))))))))))))))))))))))))))))))))))))))))))))))))))))))))))))))))) (Sh.snd (Sh.hfix 6 41 (Sh.snd (Sh.cons (Sh.osl 7) Sh.nil)) (Sh.hrow 7 22 (Sh.hfix 4 64 (Sh.fst (Sh.cons (Sh.ros 24) (Sh.snd (Sh.cons (Sh.osl 5) Sh.nil)))) (Sh.hrow 5 22 (Sh.hfix 3 40 (Sh.cons (Sh.int .i64) (Sh.cons (Sh.int .i64) (Sh.cons (Sh.int .i64) (Sh.fst (Sh.cons (Sh.int .i64) Sh.nil))))) (Sh.snd (Sh.hfix 1 27 (Sh.snd (Sh.cons (Sh.ptr 2 0) Sh.nil)) (Sh.fst (Sh.hfix 2 29 (Sh.fst (Sh.cons Sh.bool Sh.nil)) Sh.hnil)))))))))))))
def w13326_y0 : Wk G (Bool × (List (Int × Int)) × (Int × Int × Int × Int) × Bool × List Int × List Int) := (Wk.one [.keep] (pk (Sh.fst (Sh.cons Sh.bool Sh.nil)) (Sh.snd (Sh.hlp 0 13326 .ready (Sh.snd (Sh.cons Sh.any (Sh.snd (Sh.cons Sh.any (Sh.snd (Sh.cons Sh.any (Sh.snd (Sh.cons (Sh.ptr 1 0) (Sh.snd (Sh.cons Sh.any (Sh.snd (Sh.cons (Sh.ptr 3 0) (Sh.snd (Sh.cons Sh.any (Sh.snd (Sh.cons (Sh.ptr 4 0) (Sh.snd (Sh.cons (Sh.ptr 6 0) (Sh.snd (Sh.cons Sh.any (Sh.snd (Sh.cons Sh.any (Sh.snd (Sh.cons Sh.any (Sh.snd (Sh.cons Sh.any (Sh.snd (Sh.cons Sh.any (Sh.snd (Sh.cons Sh.any (Sh.snd (Sh.cons Sh.any (Sh.snd (Sh.cons Sh.any (Sh.snd (Sh.cons Sh.any (Sh.snd (Sh.cons Sh.any (Sh.snd (Sh.cons Sh.any (Sh.snd (Sh.cons Sh.any (Sh.snd (Sh.cons Sh.any (Sh.snd (Sh.cons Sh.any (Sh.snd (Sh.cons Sh.any (Sh.snd (Sh.cons Sh.any (Sh.snd (Sh.cons Sh.any (Sh.snd (Sh.cons Sh.any (Sh.snd (Sh.cons Sh.any (Sh.snd (Sh.cons Sh.any (Sh.snd (Sh.cons Sh.any (Sh.snd (Sh.cons Sh.any (Sh.snd (Sh.cons Sh.any (Sh.snd (Sh.cons Sh.any (Sh.snd (Sh.cons Sh.any (Sh.snd (Sh.cons Sh.any (Sh.snd (Sh.cons Sh.any (Sh.snd (Sh.cons Sh.any (Sh.snd (Sh.cons Sh.any (Sh.snd (Sh.cons Sh.any (Sh.snd (Sh.cons Sh.any (Sh.snd (Sh.cons Sh.any (Sh.snd (Sh.cons Sh.any (Sh.snd (Sh.cons Sh.any (Sh.snd (Sh.cons Sh.any (Sh.snd (Sh.cons Sh.any (Sh.snd (Sh.cons Sh.any (Sh.snd (Sh.cons Sh.any (Sh.snd (Sh.cons Sh.any (Sh.snd (Sh.cons Sh.any (Sh.snd (Sh.cons Sh.any (Sh.snd (Sh.cons Sh.any (Sh.snd (Sh.cons Sh.any (Sh.snd (Sh.cons Sh.any (Sh.snd (Sh.cons Sh.any (Sh.snd (Sh.cons Sh.any (Sh.snd (Sh.cons Sh.any (Sh.snd (Sh.cons Sh.any (Sh.snd (Sh.cons Sh.any (Sh.snd (Sh.cons Sh.any (Sh.snd (Sh.cons Sh.any (Sh.snd (Sh.cons Sh.any (Sh.snd (Sh.cons Sh.any (Sh.snd (Sh.cons Sh.any (Sh.snd (Sh.cons Sh.any (Sh.snd (Sh.cons Sh.any (Sh.snd (Sh.cons Sh.any (Sh.snd (Sh.cons Sh.any (Sh.snd (Sh.cons Sh.any (Sh.snd (Sh.cons Sh.any (Sh.snd (Sh.cons Sh.any (Sh.snd (Sh.cons Sh.any (Sh.snd (Sh.cons Sh.any (Sh.snd (Sh.cons Sh.any (Sh.snd (Sh.cons Sh.any (Sh.snd (Sh.cons Sh.any (Sh.snd (Sh.cons Sh.any (Sh.snd (Sh.cons Sh.any (Sh.snd (Sh.cons Sh.any (Sh.snd (Sh.cons Sh.any (Sh.snd (Sh.cons Sh.any (Sh.snd (Sh.cons Sh.any (Sh.snd (Sh.cons Sh.any (Sh.snd (Sh.cons Sh.any (Sh.snd (Sh.cons Sh.any (Sh.snd (Sh.cons Sh.any (Sh.snd (Sh.cons Sh.any (Sh.snd (Sh.cons Sh.any (Sh.snd (Sh.cons Sh.any (Sh.snd (Sh.cons Sh.any (Sh.snd (Sh.cons Sh.any (Sh.snd (Sh.cons Sh.any (Sh.snd (Sh.cons Sh.any (Sh.snd (Sh.cons Sh.any (Sh.snd (Sh.cons Sh.any (Sh.snd (Sh.cons Sh.any (Sh.snd (Sh.cons Sh.any (Sh.snd (Sh.cons Sh.any (Sh.snd (Sh.cons Sh.any (Sh.snd (Sh.cons Sh.any (Sh.snd (Sh.cons Sh.any (Sh.snd (Sh.cons Sh.any (Sh.snd (Sh.cons Sh.any (Sh.snd (Sh.cons Sh.any (Sh.snd (Sh.cons Sh.any (Sh.snd (Sh.cons Sh.any (Sh.snd (Sh.cons Sh.any (Sh.snd (Sh.cons Sh.any (Sh.snd (Sh.cons Sh.any (Sh.snd (Sh.cons Sh.any (Sh.snd (Sh.cons Sh.any (Sh.snd (Sh.cons Sh.any (Sh.snd (Sh.cons Sh.any (Sh.snd (Sh.cons Sh.any (Sh.snd (Sh.cons Sh.any (Sh.snd (Sh.cons Sh.any (Sh.snd (Sh.cons Sh.any (Sh.snd (Sh.cons Sh.any (Sh.snd (Sh.cons Sh.any (Sh.snd (Sh.cons Sh.any Sh.nil)))))))))))))))))))))))))))))))))))))))))))))))))))))))))))))))))))))))))))))))))))))))))))))))))))))))))))))))))))))))))))))))))))))))))))))))))))))))))))))))))))))))))))))))))))))))))))))))))))))))))))))))))))))))))))))))))))))))))))))) (Sh.snd (Sh.hfix 6 41 (Sh.snd (Sh.cons (Sh.osl 7) Sh.nil)) (Sh.hfix 4 64 (Sh.fst (Sh.cons (Sh.ros 24) (Sh.snd (Sh.cons (Sh.osl 5) Sh.nil)))) (Sh.hfix 3 40 (Sh.cons (Sh.int .i64) (Sh.cons (Sh.int .i64) (Sh.cons (Sh.int .i64) (Sh.fst (Sh.cons (Sh.int .i64) Sh.nil))))) (Sh.snd (Sh.hfix 1 27 (Sh.snd (Sh.cons (Sh.ptr 2 0) Sh.nil)) (Sh.hfix 2 29 (Sh.fst (Sh.cons Sh.bool Sh.nil)) (Sh.hrow 5 22 (Sh.fst (Sh.hrow 7 22 Sh.hnil))))))))))))))
def F13326_y0 (v : (Int × Int) × List Int × (List (Int × Int)) × List Int × (Int × Int × Int × Int) × Bool) : Option (Bool × (List (Int × Int)) × (Int × Int × Int × Int) × Bool × List Int × List Int) :=
  (idx v.1.2 (v.2.1).length).bind fun (x2085 : Nat) =>
  ((v.2.1)[x2085]?).bind fun (x2086 : Int) =>
  (idx v.1.1 (v.2.1).length).bind fun (x2087 : Nat) =>
  ((v.2.1)[x2087]?).bind fun (x2088 : Int) =>
  (idx v.1.1 (v.2.2.2.1).length).bind fun (x2089 : Nat) =>
  ((v.2.2.2.1)[x2089]?).bind fun (x2090 : Int) =>
  (F42_0 ((x2088, (v.2.2.2.2.1.2.1, x2090)), v.2.2.2.2.2)).bind fun r2091 =>
  let x2092 : Int := (if r2091.1 < x2086 then r2091.1 else x2086)
  (idx v.1.2 (v.2.1).length).bind fun (x2093 : Nat) =>
  ((v.2.1)[x2093]?).bind fun _ =>
  let x2095 : List Int := (v.2.1).set x2093 (x2092)
  some (true, (v.2.2.1, (v.2.2.2.2.1, (r2091.2, (v.2.2.2.1, x2095)))))

noncomputable def k13326_y0 : List (Known Try.prog E) := [Known.of envOk [5, 1, 1, 1] [(.ptr 0 0 29 [.keep]), .keep, .keep, .keep] v42_0 F42_0 w42_0 ok42_0]
def ft13326_y0_0 : List Pat := [(.own 7 22), (.own 5 22), (.ptr 2 0 29 [.keep]), (.ptr 1 0 27 [(.ptr 2 0 29 [])]), (.ptr 3 0 40 [.keep, .keep, .keep, .keep]), (.ptr 4 0 64 [(.ros 24), (.own 5 22)]), (.ptr 6 0 41 [(.own 7 22)]), (.yld 0 13326 [.any, .any, .any, (.ptr 1 0 27 []), .any, (.ptr 3 0 40 []), .any, (.ptr 4 0 64 []), (.ptr 6 0 41 []), .any, .any, .any, .any, .any, .any, .any, .any, .any, .any, .any, .any, .any, .any, .any, .any, .any, .any, .any, .any, .any, .any, .any, .any, .any, .any, .any, .any, .any, .any, .any, .any, .any, .any, .any, .any, .any, .any, .any, .any, .any, .any, .any, .any, .any, .any, .any, .any, .any, .any, .any, .any, .any, .any, .any, .any, .any, .any, .any, .any, .any, .any, .any, .any, .any, .any, .any, .any, .any, .any, .any, .any, .any, .any, .any, .any, .any, .any, .any, .any, .any, .any, .any, .any, .any, .any, .any, .any, .any, .any, .any, .any, .any, .any, .any, .any, .any, .any, .any, .any, .any, .any, .any, .any, .any, .any, .any, .any, .any, .any])]
noncomputable def sy13326_y0 : Array Tmp × Code × Code := match todoAt (Try.f13.body.getD .skip) 14 with | .code (.rangeFunc _ ps aa bb) :: _ => (ps, aa, bb) | _ => (#[], .skip, .skip)
noncomputable def L13326_y0 (n id : Nat) (st : St G) : Option (Bool × (List (Int × Int)) × (Int × Int × Int × Int) × Bool × List Int × List Int) := none
set_option maxRecDepth 100000 in
theorem e13326_y0 (n : Nat) (v : (Int × Int) × List Int × (List (Int × Int)) × List Int × (Int × Int × Int × Int) × Bool) : ev Try.prog E (oracle k13326_y0) 119 (fun x => mem x []) (L13326_y0 n) (finB Try.prog [ft13326_y0_0] w13326_y0.alts) 4000 [.code sy13326_y0.2.1, .beginRound, .code sy13326_y0.2.2] (rndSt sy13326_y0.1.toList (v13326_y0.enc v)) = F13326_y0 v := by kernel_rfl
theorem ok13326_y0 : CalOk Try.prog E (.yl 13326) v13326_y0.enc F13326_y0 w13326_y0.enc :=
  round_known (key := 13326) (ps := sy13326_y0.1) (aa := sy13326_y0.2.1) (bb := sy13326_y0.2.2) (site_of (fn := Try.f13) (c := (Try.f13.body.getD .skip)) Try.func13 rfl (by kernel_rfl) (by kernel_rfl)) envOk (oracle_ok k13326_y0) mixed 119 v13326_y0 F13326_y0 w13326_y0 ft13326_y0_0 [ft13326_y0_0] (by kernel_rfl) [] 4000 L13326_y0 (by kernel_rfl)
    (fun _ h => nomatch h) (fun v _ h => ⟨0, (e13326_y0 _ v).trans h⟩) (fun _ => by kernel_rfl) (by kernel_rfl) (fun _ => by kernel_rfl) (fun _ _ => by kernel_rfl)
/- (chicane/profile.loop).twice$1 -/
abbrev A67_0 : Type := (List (Int × Int)) × List Int × (List (Int × Int)) × List Int × (Int × Int × Int × Int) × Bool
abbrev R67_0 : Type := (List (Int × Int)) × (List (Int × Int)) × (Int × Int × Int × Int) × Bool × List Int × List Int
def v67_0 : Pk G ((List (Int × Int)) × List Int × (List (Int × Int)) × List Int × (Int × Int × Int × Int) × Bool) := (Pk.snd (pk (Sh.snd (Sh.cons (Sh.yld 0) (Sh.snd (Sh.cons (Sh.ptr 8 0) Sh.nil)))) (Sh.hfix 8 64 (Sh.fst (Sh.cons (Sh.ros 24) (Sh.snd (Sh.cons (Sh.osl 5) Sh.nil)))) (Sh.snd (Sh.hlp 0 13326 .ready (Sh.snd (Sh.cons Sh.any (Sh.snd (Sh.cons Sh.any (Sh.snd (Sh.cons Sh.any (Sh.snd (Sh.cons (Sh.ptr 1 0) (Sh.snd (Sh.cons Sh.any (Sh.snd (Sh.cons (Sh.ptr 3 0) (Sh.snd (Sh.cons Sh.any (Sh.snd (Sh.cons (Sh.ptr 4 0) (Sh.snd (Sh.cons (Sh.ptr 6 0) (Sh.snd (Sh.cons Sh.any (Sh.snd (Sh.cons Sh.any (Sh.snd (Sh.cons Sh.any (Sh.snd (Sh.cons Sh.any (Sh.snd (Sh.cons Sh.any (Sh.snd (Sh.cons Sh.any (Sh.snd (Sh.cons Sh.any (Sh.snd (Sh.cons Sh.any (Sh.snd (Sh.cons Sh.any (Sh.snd (Sh.cons Sh.any (Sh.snd (Sh.cons Sh.any (Sh.snd (Sh.cons Sh.any (Sh.snd (Sh.cons Sh.any (Sh.snd (Sh.cons Sh.any (Sh.snd (Sh.cons Sh.any (Sh.snd (Sh.cons Sh.any (Sh.snd (Sh.cons Sh.any (Sh.snd (Sh.cons Sh.any (Sh.snd (Sh.cons Sh.any (Sh.snd (Sh.cons Sh.any (Sh.snd (Sh.cons Sh.any (Sh.snd (Sh.cons Sh.any (Sh.snd (Sh.cons Sh.any (Sh.snd (Sh.cons Sh.any (Sh.snd (Sh.cons Sh.any (Sh.snd (Sh.cons Sh.any (Sh.snd (Sh.cons Sh.any (Sh.snd (Sh.cons Sh.any (Sh.snd (Sh.cons Sh.any (Sh.snd (Sh.cons Sh.any (Sh.snd (Sh.cons Sh.any (Sh.snd (Sh.cons Sh.any (Sh.snd (Sh.cons Sh.any (Sh.snd (Sh.cons Sh.any (Sh.snd (Sh.cons Sh.any (Sh.snd (Sh.cons Sh.any (Sh.snd (Sh.cons Sh.any (Sh.snd (Sh.cons Sh.any (Sh.snd (Sh.cons Sh.any (Sh.snd (Sh.cons Sh.any (Sh.snd (Sh.cons Sh.any (Sh.snd (Sh.cons Sh.any (Sh.snd (Sh.cons Sh.any (Sh.snd (Sh.cons Sh.any (Sh.snd (Sh.cons Sh.any (Sh.snd (Sh.cons Sh.any (Sh.snd (Sh.cons Sh.any (Sh.snd (Sh.cons Sh.any (Sh.snd (Sh.cons Sh.any (Sh.snd (Sh.cons Sh.any (Sh.snd (Sh.cons Sh.any (Sh.snd (Sh.cons Sh.any (Sh.snd (Sh.cons Sh.any (Sh.snd (Sh.cons Sh.any (Sh.snd (Sh.cons Sh.any (Sh.snd (Sh.cons Sh.any (Sh.snd (Sh.cons Sh.any (Sh.snd (Sh.cons Sh.any (Sh.snd (Sh.cons Sh.any (Sh.snd (Sh.cons Sh.any (Sh.snd (Sh.cons Sh.any (Sh.snd (Sh.cons Sh.any (Sh.snd (Sh.cons Sh.any (Sh.snd (Sh.cons Sh.any (Sh.snd (Sh.cons Sh.any (Sh.snd (Sh.cons Sh.any (Sh.snd (Sh.cons Sh.any (Sh.snd (Sh.cons Sh.any (Sh.snd (Sh.cons Sh.any (Sh.snd (Sh.cons Sh.any (Sh.snd (Sh.cons Sh.any (Sh.snd (Sh.cons Sh.any (Sh.snd (Sh.cons Sh.any (Sh.snd (Sh.cons Sh.any (Sh.snd (Sh.cons Sh.any (Sh.snd (Sh.cons Sh.any (Sh.snd (Sh.cons Sh.any (Sh.snd (Sh.cons Sh.any (Sh.snd (Sh.cons Sh.any (Sh.snd (Sh.cons Sh.any (Sh.snd (Sh.cons Sh.any (Sh.snd (Sh.cons Sh.any (Sh.snd (Sh.cons Sh.any (Sh.snd (Sh.cons Sh.any (Sh.snd (Sh.cons Sh.any (Sh.snd (Sh.cons Sh.any (Sh.snd (Sh.cons Sh.any (Sh.snd (Sh.cons Sh.any (Sh.snd (Sh.cons Sh.any (Sh.snd (Sh.cons Sh.any (Sh.snd (Sh.cons Sh.any (Sh.snd (Sh.cons Sh.any (Sh.snd (Sh.cons Sh.any (Sh.snd (Sh.cons Sh.any (Sh.snd (Sh.cons Sh.any (Sh.snd (Sh.cons Sh.any (Sh.snd (Sh.cons Sh.any (Sh.snd (Sh.cons Sh.any (Sh.snd (Sh.cons Sh.any (Sh.snd (Sh.cons Sh.any (Sh.snd (Sh.cons Sh.any (Sh.snd (Sh.cons Sh.any (Sh.snd (Sh.cons Sh.any (Sh.snd (Sh.cons Sh.any (Sh.snd (Sh.cons Sh.any (Sh.snd (Sh.cons Sh.any (Sh.snd (Sh.cons Sh.any (Sh.snd (Sh.cons Sh.any (Sh.snd (Sh.cons Sh.any (Sh.snd (Sh.cons Sh.any Sh.nil)))))))))))))))))))))))))))))))))))))))))))))))))))))))))))))))))))))))))))))))))))))))))))))))))))))))))))))))))))))))))))))))))))))))))))))))))))))))))))))))))))))))))))))))))))))))))))))))))))))))))))))))))))))))))))))))))))))))))))))) (Sh.snd (Sh.hfix 6 41 (Sh.snd (Sh.cons (Sh.osl 7) Sh.nil)) (Sh.hrow 7 22 (Sh.hfix 4 64 (Sh.fst (Sh.cons (Sh.ros 24) (Sh.snd (Sh.cons (Sh.osl 5) Sh.nil)))) (Sh.hrow 5 22 (Sh.hfix 3 40 (Sh.cons (Sh.int .i64) (Sh.cons (Sh.int .i64) (Sh.cons (Sh.int .i64) (Sh.fst (Sh.cons (Sh.int .i64) Sh.nil))))) (Sh.snd (Sh.hfix 1 27 (Sh.snd (Sh.cons (Sh.ptr 2 0) Sh.nil)) (Sh.fst (Sh.hfix 2 29 (Sh.fst (Sh.cons Sh.bool Sh.nil)) Sh.hnil)))))))))))))))
def w67_0 : Wk G ((List (Int × Int)) × (List (Int × Int)) × (Int × Int × Int × Int) × Bool × List Int × List Int) := (Wk.one [] (Pk.snd (pk Sh.nil (Sh.hfix 8 64 (Sh.fst (Sh.cons (Sh.ros 24) (Sh.snd (Sh.cons (Sh.osl 5) Sh.nil)))) (Sh.snd (Sh.hlp 0 13326 .ready (Sh.snd (Sh.cons Sh.any (Sh.snd (Sh.cons Sh.any (Sh.snd (Sh.cons Sh.any (Sh.snd (Sh.cons (Sh.ptr 1 0) (Sh.snd (Sh.cons Sh.any (Sh.snd (Sh.cons (Sh.ptr 3 0) (Sh.snd (Sh.cons Sh.any (Sh.snd (Sh.cons (Sh.ptr 4 0) (Sh.snd (Sh.cons (Sh.ptr 6 0) (Sh.snd (Sh.cons Sh.any (Sh.snd (Sh.cons Sh.any (Sh.snd (Sh.cons Sh.any (Sh.snd (Sh.cons Sh.any (Sh.snd (Sh.cons Sh.any (Sh.snd (Sh.cons Sh.any (Sh.snd (Sh.cons Sh.any (Sh.snd (Sh.cons Sh.any (Sh.snd (Sh.cons Sh.any (Sh.snd (Sh.cons Sh.any (Sh.snd (Sh.cons Sh.any (Sh.snd (Sh.cons Sh.any (Sh.snd (Sh.cons Sh.any (Sh.snd (Sh.cons Sh.any (Sh.snd (Sh.cons Sh.any (Sh.snd (Sh.cons Sh.any (Sh.snd (Sh.cons Sh.any (Sh.snd (Sh.cons Sh.any (Sh.snd (Sh.cons Sh.any (Sh.snd (Sh.cons Sh.any (Sh.snd (Sh.cons Sh.any (Sh.snd (Sh.cons Sh.any (Sh.snd (Sh.cons Sh.any (Sh.snd (Sh.cons Sh.any (Sh.snd (Sh.cons Sh.any (Sh.snd (Sh.cons Sh.any (Sh.snd (Sh.cons Sh.any (Sh.snd (Sh.cons Sh.any (Sh.snd (Sh.cons Sh.any (Sh.snd (Sh.cons Sh.any (Sh.snd (Sh.cons Sh.any (Sh.snd (Sh.cons Sh.any (Sh.snd (Sh.cons Sh.any (Sh.snd (Sh.cons Sh.any (Sh.snd (Sh.cons Sh.any (Sh.snd (Sh.cons Sh.any (Sh.snd (Sh.cons Sh.any (Sh.snd (Sh.cons Sh.any (Sh.snd (Sh.cons Sh.any (Sh.snd (Sh.cons Sh.any (Sh.snd (Sh.cons Sh.any (Sh.snd (Sh.cons Sh.any (Sh.snd (Sh.cons Sh.any (Sh.snd (Sh.cons Sh.any (Sh.snd (Sh.cons Sh.any (Sh.snd (Sh.cons Sh.any (Sh.snd (Sh.cons Sh.any (Sh.snd (Sh.cons Sh.any (Sh.snd (Sh.cons Sh.any (Sh.snd (Sh.cons Sh.any (Sh.snd (Sh.cons Sh.any (Sh.snd (Sh.cons Sh.any (Sh.snd (Sh.cons Sh.any (Sh.snd (Sh.cons Sh.any (Sh.snd (Sh.cons Sh.any (Sh.snd (Sh.cons Sh.any (Sh.snd (Sh.cons Sh.any (Sh.snd (Sh.cons Sh.any (Sh.snd (Sh.cons Sh.any (Sh.snd (Sh.cons Sh.any (Sh.snd (Sh.cons Sh.any (Sh.snd (Sh.cons Sh.any (Sh.snd (Sh.cons Sh.any (Sh.snd (Sh.cons Sh.any (Sh.snd (Sh.cons Sh.any (Sh.snd (Sh.cons Sh.any (Sh.snd (Sh.cons Sh.any (Sh.snd (Sh.cons Sh.any (Sh.snd (Sh.cons Sh.any (Sh.snd (Sh.cons Sh.any (Sh.snd (Sh.cons Sh.any (Sh.snd (Sh.cons Sh.any (Sh.snd (Sh.cons Sh.any (Sh.snd (Sh.cons Sh.any (Sh.snd (Sh.cons Sh.any (Sh.snd (Sh.cons Sh.any (Sh.snd (Sh.cons Sh.any (Sh.snd (Sh.cons Sh.any (Sh.snd (Sh.cons Sh.any (Sh.snd (Sh.cons Sh.any (Sh.snd (Sh.cons Sh.any (Sh.snd (Sh.cons Sh.any (Sh.snd (Sh.cons Sh.any (Sh.snd (Sh.cons Sh.any (Sh.snd (Sh.cons Sh.any (Sh.snd (Sh.cons Sh.any (Sh.snd (Sh.cons Sh.any (Sh.snd (Sh.cons Sh.any (Sh.snd (Sh.cons Sh.any (Sh.snd (Sh.cons Sh.any (Sh.snd (Sh.cons Sh.any (Sh.snd (Sh.cons Sh.any (Sh.snd (Sh.cons Sh.any (Sh.snd (Sh.cons Sh.any (Sh.snd (Sh.cons Sh.any (Sh.snd (Sh.cons Sh.any (Sh.snd (Sh.cons Sh.any (Sh.snd (Sh.cons Sh.any (Sh.snd (Sh.cons Sh.any (Sh.snd (Sh.cons Sh.any (Sh.snd (Sh.cons Sh.any (Sh.snd (Sh.cons Sh.any (Sh.snd (Sh.cons Sh.any (Sh.snd (Sh.cons Sh.any (Sh.snd (Sh.cons Sh.any (Sh.snd (Sh.cons Sh.any (Sh.snd (Sh.cons Sh.any (Sh.snd (Sh.cons Sh.any (Sh.snd (Sh.cons Sh.any (Sh.snd (Sh.cons Sh.any Sh.nil)))))))))))))))))))))))))))))))))))))))))))))))))))))))))))))))))))))))))))))))))))))))))))))))))))))))))))))))))))))))))))))))))))))))))))))))))))))))))))))))))))))))))))))))))))))))))))))))))))))))))))))))))))))))))))))))))))))))))))))) (Sh.snd (Sh.hfix 6 41 (Sh.snd (Sh.cons (Sh.osl 7) Sh.nil)) (Sh.hfix 4 64 (Sh.fst (Sh.cons (Sh.ros 24) (Sh.snd (Sh.cons (Sh.osl 5) Sh.nil)))) (Sh.hfix 3 40 (Sh.cons (Sh.int .i64) (Sh.cons (Sh.int .i64) (Sh.cons (Sh.int .i64) (Sh.fst (Sh.cons (Sh.int .i64) Sh.nil))))) (Sh.snd (Sh.hfix 1 27 (Sh.snd (Sh.cons (Sh.ptr 2 0) Sh.nil)) (Sh.hfix 2 29 (Sh.fst (Sh.cons Sh.bool Sh.nil)) (Sh.hrow 5 22 (Sh.fst (Sh.hrow 7 22 Sh.hnil))))))))))))))))
def c67_0_1 : Pk G ((Int × Int) × (List (Int × Int)) × (List (Int × Int)) × (Int × Int × Int × Int) × Bool × List Int × List Int) := (pk (Sh.snd (Sh.cons (Sh.yld 0) (Sh.snd (Sh.cons (Sh.ptr 8 0) (Sh.cons (Sh.int .i64) (Sh.fst (Sh.cons (Sh.int .i64) Sh.nil))))))) (Sh.hfix 8 64 (Sh.fst (Sh.cons (Sh.ros 24) (Sh.snd (Sh.cons (Sh.osl 5) Sh.nil)))) (Sh.snd (Sh.hlp 0 13326 .ready (Sh.snd (Sh.cons Sh.any (Sh.snd (Sh.cons Sh.any (Sh.snd (Sh.cons Sh.any (Sh.snd (Sh.cons (Sh.ptr 1 0) (Sh.snd (Sh.cons Sh.any (Sh.snd (Sh.cons (Sh.ptr 3 0) (Sh.snd (Sh.cons Sh.any (Sh.snd (Sh.cons (Sh.ptr 4 0) (Sh.snd (Sh.cons (Sh.ptr 6 0) (Sh.snd (Sh.cons Sh.any (Sh.snd (Sh.cons Sh.any (Sh.snd (Sh.cons Sh.any (Sh.snd (Sh.cons Sh.any (Sh.snd (Sh.cons Sh.any (Sh.snd (Sh.cons Sh.any (Sh.snd (Sh.cons Sh.any (Sh.snd (Sh.cons Sh.any (Sh.snd (Sh.cons Sh.any (Sh.snd (Sh.cons Sh.any (Sh.snd (Sh.cons Sh.any (Sh.snd (Sh.cons Sh.any (Sh.snd (Sh.cons Sh.any (Sh.snd (Sh.cons Sh.any (Sh.snd (Sh.cons Sh.any (Sh.snd (Sh.cons Sh.any (Sh.snd (Sh.cons Sh.any (Sh.snd (Sh.cons Sh.any (Sh.snd (Sh.cons Sh.any (Sh.snd (Sh.cons Sh.any (Sh.snd (Sh.cons Sh.any (Sh.snd (Sh.cons Sh.any (Sh.snd (Sh.cons Sh.any (Sh.snd (Sh.cons Sh.any (Sh.snd (Sh.cons Sh.any (Sh.snd (Sh.cons Sh.any (Sh.snd (Sh.cons Sh.any (Sh.snd (Sh.cons Sh.any (Sh.snd (Sh.cons Sh.any (Sh.snd (Sh.cons Sh.any (Sh.snd (Sh.cons Sh.any (Sh.snd (Sh.cons Sh.any (Sh.snd (Sh.cons Sh.any (Sh.snd (Sh.cons Sh.any (Sh.snd (Sh.cons Sh.any (Sh.snd (Sh.cons Sh.any (Sh.snd (Sh.cons Sh.any (Sh.snd (Sh.cons Sh.any (Sh.snd (Sh.cons Sh.any (Sh.snd (Sh.cons Sh.any (Sh.snd (Sh.cons Sh.any (Sh.snd (Sh.cons Sh.any (Sh.snd (Sh.cons Sh.any (Sh.snd (Sh.cons Sh.any (Sh.snd (Sh.cons Sh.any (Sh.snd (Sh.cons Sh.any (Sh.snd (Sh.cons Sh.any (Sh.snd (Sh.cons Sh.any (Sh.snd (Sh.cons Sh.any (Sh.snd (Sh.cons Sh.any (Sh.snd (Sh.cons Sh.any (Sh.snd (Sh.cons Sh.any (Sh.snd (Sh.cons Sh.any (Sh.snd (Sh.cons Sh.any (Sh.snd (Sh.cons Sh.any (Sh.snd (Sh.cons Sh.any (Sh.snd (Sh.cons Sh.any (Sh.snd (Sh.cons Sh.any (Sh.snd (Sh.cons Sh.any (Sh.snd (Sh.cons Sh.any (Sh.snd (Sh.cons Sh.any (Sh.snd (Sh.cons Sh.any (Sh.snd (Sh.cons Sh.any (Sh.snd (Sh.cons Sh.any (Sh.snd (Sh.cons Sh.any (Sh.snd (Sh.cons Sh.any (Sh.snd (Sh.cons Sh.any (Sh.snd (Sh.cons Sh.any (Sh.snd (Sh.cons Sh.any (Sh.snd (Sh.cons Sh.any (Sh.snd (Sh.cons Sh.any (Sh.snd (Sh.cons Sh.any (Sh.snd (Sh.cons Sh.any (Sh.snd (Sh.cons Sh.any (Sh.snd (Sh.cons Sh.any (Sh.snd (Sh.cons Sh.any (Sh.snd (Sh.cons Sh.any (Sh.snd (Sh.cons Sh.any (Sh.snd (Sh.cons Sh.any (Sh.snd (Sh.cons Sh.any (Sh.snd (Sh.cons Sh.any (Sh.snd (Sh.cons Sh.any (Sh.snd (Sh.cons Sh.any (Sh.snd (Sh.cons Sh.any (Sh.snd (Sh.cons Sh.any (Sh.snd (Sh.cons Sh.any (Sh.snd (Sh.cons Sh.any (Sh.snd (Sh.cons Sh.any (Sh.snd (Sh.cons Sh.any (Sh.snd (Sh.cons Sh.any (Sh.snd (Sh.cons Sh.any (Sh.snd (Sh.cons Sh.any (Sh.snd (Sh.cons Sh.any (Sh.snd (Sh.cons Sh.any (Sh.snd (Sh.cons Sh.any (Sh.snd (Sh.cons Sh.any (Sh.snd (Sh.cons Sh.any (Sh.snd (Sh.cons Sh.any (Sh.snd (Sh.cons Sh.any (Sh.snd (Sh.cons Sh.any (Sh.snd (Sh.cons Sh.any (Sh.snd (Sh.cons Sh.any (Sh.snd (Sh.cons Sh.any (Sh.snd (Sh.cons Sh.any (Sh.snd (Sh.cons Sh.any (Sh.snd (Sh.cons Sh.any (Sh.snd (Sh.cons Sh.any (Sh.snd (Sh.cons Sh.any (Sh.snd (Sh.cons Sh.any (Sh.snd (Sh.cons Sh.any Sh.nil)))))))))))))))))))))))))))))))))))))))))))))))))))))))))))))))))))))))))))))))))))))))))))))))))))))))))))))))))))))))))))))))))))))))))))))))))))))))))))))))))))))))))))))))))))))))))))))))))))))))))))))))))))))))))))))))))))))))))))))) (Sh.snd (Sh.hfix 6 41 (Sh.snd (Sh.cons (Sh.osl 7) Sh.nil)) (Sh.hfix 4 64 (Sh.fst (Sh.cons (Sh.ros 24) (Sh.snd (Sh.cons (Sh.osl 5) Sh.nil)))) (Sh.hfix 3 40 (Sh.cons (Sh.int .i64) (Sh.cons (Sh.int .i64) (Sh.cons (Sh.int .i64) (Sh.fst (Sh.cons (Sh.int .i64) Sh.nil))))) (Sh.snd (Sh.hfix 1 27 (Sh.snd (Sh.cons (Sh.ptr 2 0) Sh.nil)) (Sh.hfix 2 29 (Sh.fst (Sh.cons Sh.bool Sh.nil)) (Sh.hrow 5 22 (Sh.fst (Sh.hrow 7 22 Sh.hnil))))))))))))))
def B67_0_1 (K : (((Int × Int) × (List (Int × Int)) × (List (Int × Int)) × (Int × Int × Int × Int) × Bool × List Int × List Int) → Option ((List (Int × Int)) × (List (Int × Int)) × (Int × Int × Int × Int) × Bool × List Int × List Int))) (v : (Int × Int) × (List (Int × Int)) × (List (Int × Int)) × (Int × Int × Int × Int) × Bool × List Int × List Int) : Option ((List (Int × Int)) × (List (Int × Int)) × (Int × Int × Int × Int) × Bool × List Int × List Int) :=
  bif (decide (v.1.2 < v.1.1)) then
    (chk (((v.2.1).length : Int) != 0)).bind fun _ =>
    let x2105 : Int := (Int.tmod v.1.2 ((v.2.1).length : Int))
    (F40_0 ((v.2.1, v.2.2.2.2.2.1), x2105)).bind fun r2106 =>
    (F13326_y0 ((x2105, r2106), (v.2.2.2.2.2.2, (v.2.2.1, (v.2.2.2.2.2.1, (v.2.2.2.1, v.2.2.2.2.1)))))).bind fun r2107 =>
    bif (!r2107.1) then
      some (v.2.1, r2107.2)
    else
      let x2108 : Int := (IntKind.wrap .i64 (v.1.2 + (1 : Int)))
      K ((v.1.1, x2108), (v.2.1, r2107.2))
  else
    some (v.2)

def E67_0 (K : (((Int × Int) × (List (Int × Int)) × (List (Int × Int)) × (Int × Int × Int × Int) × Bool × List Int × List Int) → Option ((List (Int × Int)) × (List (Int × Int)) × (Int × Int × Int × Int) × Bool × List Int × List Int))) (v : (List (Int × Int)) × List Int × (List (Int × Int)) × List Int × (Int × Int × Int × Int) × Bool) : Option ((List (Int × Int)) × (List (Int × Int)) × (Int × Int × Int × Int) × Bool × List Int × List Int) :=
  let x2104 : Int := (IntKind.wrap .i64 ((2 : Int) * ((v.1).length : Int)))
  K ((x2104, (0 : Int)), (v.1, (v.2.2.1, (v.2.2.2.2.1, (v.2.2.2.2.2, (v.2.2.2.1, v.2.1))))))

def K67_0 : Nat → (((Int × Int) × (List (Int × Int)) × (List (Int × Int)) × (Int × Int × Int × Int) × Bool × List Int × List Int) → Option ((List (Int × Int)) × (List (Int × Int)) × (Int × Int × Int × Int) × Bool × List Int × List Int))
  | 0 => (fun _ => none)
  | n + 1 => (B67_0_1 (K67_0 n))
def fuel67_0 (v : (List (Int × Int)) × List Int × (List (Int × Int)) × List Int × (Int × Int × Int × Int) × Bool) : Nat := 1000
def F67_0 (v : (List (Int × Int)) × List Int × (List (Int × Int)) × List Int × (Int × Int × Int × Int) × Bool) : Option ((List (Int × Int)) × (List (Int × Int)) × (Int × Int × Int × Int) × Bool × List Int × List Int) := E67_0 (K67_0 (fuel67_0 v)) v
noncomputable def k67_0 : List (Known Try.prog E) := [Known.of envOk [9, 1] [(.agg [(.ros 24), (.ros 22)]), .keep] v40_0 F40_0 w40_0 ok40_0, Known.ofR envOk [13, 1, 1] [(.yld 0 13326 [.any, .any, .any, (.ptr 1 0 27 [(.ptr 2 0 29 [.keep])]), .any, (.ptr 3 0 40 [.keep, .keep, .keep, .keep]), .any, (.ptr 4 0 64 [(.ros 24), (.own 5 22)]), (.ptr 6 0 41 [(.own 7 22)]), .any, .any, .any, .any, .any, .any, .any, .any, .any, .any, .any, .any, .any, .any, .any, .any, .any, .any, .any, .any, .any, .any, .any, .any, .any, .any, .any, .any, .any, .any, .any, .any, .any, .any, .any, .any, .any, .any, .any, .any, .any, .any, .any, .any, .any, .any, .any, .any, .any, .any, .any, .any, .any, .any, .any, .any, .any, .any, .any, .any, .any, .any, .any, .any, .any, .any, .any, .any, .any, .any, .any, .any, .any, .any, .any, .any, .any, .any, .any, .any, .any, .any, .any, .any, .any, .any, .any, .any, .any, .any, .any, .any, .any, .any, .any, .any, .any, .any, .any, .any, .any, .any, .any, .any, .any, .any, .any, .any, .any, .any]), .keep, .keep] v13326_y0 F13326_y0 w13326_y0 ok13326_y0]
def ft67_0_0 : List Pat := [(.own 7 22), (.own 5 22), (.ptr 2 0 29 [.keep]), (.ptr 1 0 27 [(.ptr 2 0 29 [])]), (.ptr 3 0 40 [.keep, .keep, .keep, .keep]), (.ptr 4 0 64 [(.ros 24), (.own 5 22)]), (.ptr 6 0 41 [(.own 7 22)]), (.yld 0 13326 [.any, .any, .any, (.ptr 1 0 27 []), .any, (.ptr 3 0 40 []), .any, (.ptr 4 0 64 []), (.ptr 6 0 41 []), .any, .any, .any, .any, .any, .any, .any, .any, .any, .any, .any, .any, .any, .any, .any, .any, .any, .any, .any, .any, .any, .any, .any, .any, .any, .any, .any, .any, .any, .any, .any, .any, .any, .any, .any, .any, .any, .any, .any, .any, .any, .any, .any, .any, .any, .any, .any, .any, .any, .any, .any, .any, .any, .any, .any, .any, .any, .any, .any, .any, .any, .any, .any, .any, .any, .any, .any, .any, .any, .any, .any, .any, .any, .any, .any, .any, .any, .any, .any, .any, .any, .any, .any, .any, .any, .any, .any, .any, .any, .any, .any, .any, .any, .any, .any, .any, .any, .any, .any, .any, .any, .any, .any, .any, .any, .any, .any, .any, .any, .any]), (.ptr 8 0 64 [(.ros 24), (.own 5 22)])]
def s67_0_1 : List (Nat × Pat) := [(0, (.yld 0 13326 [])), (1, (.ptr 8 0 64 [])), (8, .keep), (9, .keep)]
noncomputable def L67_0 (n id : Nat) (st : St G) : Option ((List (Int × Int)) × (List (Int × Int)) × (Int × Int × Int × Int) × Bool × List Int × List Int) := match Nat.beq id 1 with | true => cutK Try.prog s67_0_1 ft67_0_0 c67_0_1.dec (K67_0 n) st | false => none
set_option maxRecDepth 100000 in
theorem e67_0 (n : Nat) (v : (List (Int × Int)) × List Int × (List (Int × Int)) × List Int × (Int × Int × Int × Int) × Bool) : ev Try.prog E (oracle k67_0) Try.f67.ntmps (fun x => mem x [1]) (L67_0 n) (finF Try.prog E Try.f67.results.toList [ft67_0_0] w67_0.alts) 4000 [.code (Try.f67.body.getD .skip)] (argSt (v67_0.enc v)) = E67_0 (K67_0 n) v := by kernel_rfl
set_option maxRecDepth 100000 in
theorem b67_0_1 (n : Nat) (v : (Int × Int) × (List (Int × Int)) × (List (Int × Int)) × (Int × Int × Int × Int) × Bool × List Int × List Int) : evCut Try.prog E (oracle k67_0) false 67 Try.f67.ntmps (fun x => mem x [1]) (L67_0 n) (finF Try.prog E Try.f67.results.toList [ft67_0_0] w67_0.alts) 4000 (todoAt (Try.f67.body.getD .skip) 1) (cutSt s67_0_1 (c67_0_1.enc v)) = B67_0_1 (K67_0 n) v := by kernel_rfl
theorem ql67_0_1 : ∀ n st, L67_0 n 1 st = cutK Try.prog s67_0_1 ft67_0_0 c67_0_1.dec (K67_0 n) st := fun _ _ => rfl
theorem qz67_0_1 : ∀ v, (K67_0 0) v = none := fun _ => rfl
theorem qe67_0_1 : ∀ n v r, (K67_0 (n + 1)) v = some r → evCut Try.prog E (oracle k67_0) false 67 Try.f67.ntmps (fun x => mem x [1]) (L67_0 n) (finF Try.prog E Try.f67.results.toList [ft67_0_0] w67_0.alts) 4000 ((lk (cutsC (Try.f67.body.getD .skip) []) 1).getD []) (cutSt s67_0_1 (c67_0_1.enc v)) = some r := fun n v _ h => (b67_0_1 n v).trans h
theorem qc67_0_1 : CutOk Try.prog E (oracle k67_0) false 67 Try.f67.ntmps [1] (finF Try.prog E Try.f67.results.toList [ft67_0_0] w67_0.alts) 4000 (cutsC (Try.f67.body.getD .skip) []) ft67_0_0 L67_0 1 := ⟨_, ft67_0_0, s67_0_1, c67_0_1.dec, c67_0_1.enc, fun n => (K67_0 n), c67_0_1.ok, ql67_0_1, qz67_0_1, by kernel_rfl, qe67_0_1⟩
set_option maxHeartbeats 4000000 in
theorem ok67_0 : FnOk Try.prog E 67 v67_0.enc F67_0 w67_0.enc :=
  fn_known (fn := Try.f67) (c := (Try.f67.body.getD .skip)) Try.func67 (by kernel_rfl) rfl envOk (oracle_ok k67_0) mixed v67_0 F67_0 w67_0 ft67_0_0 [ft67_0_0] (by kernel_rfl) [1] 4000 L67_0 (by kernel_rfl)
    (List.forall_mem_cons.2 ⟨qc67_0_1, fun _ h => (nomatch h)⟩) (fun v _ h => ⟨fuel67_0 v, (e67_0 _ v).trans h⟩) (fun _ => by kernel_rfl) (fun _ => by kernel_rfl) (fun _ _ => by kernel_rfl)
/- (chicane/profile.loop).back -/
abbrev A43_0 : Type := (List (Int × Int)) × List Int
abbrev R43_0 : Type := (List (Int × Int)) × List Int
def v43_0 : Pk G ((List (Int × Int)) × List Int) := (Pk.fst (pk (Sh.fst (Sh.cons (Sh.agg (Sh.cons (Sh.ros 24) (Sh.fst (Sh.cons (Sh.ros 22) Sh.nil)))) Sh.nil)) Sh.hnil))
def w43_0 : Wk G ((List (Int × Int)) × List Int) := (Wk.one [(.fn (.func 68) [] [(.ptr 0 0 64 [(.ros 24), (.ros 22)])])] (Pk.snd (pk (Sh.snd (Sh.cons (Sh.snd (Sh.fn (.func 68) Sh.nil (Sh.snd (Sh.cons (Sh.ptr 0 0) Sh.nil)))) Sh.nil)) (Sh.fst (Sh.hfix 0 64 (Sh.cons (Sh.ros 24) (Sh.fst (Sh.cons (Sh.ros 22) Sh.nil))) Sh.hnil)))))
def F43_0 (v : (List (Int × Int)) × List Int) : Option ((List (Int × Int)) × List Int) :=
  some (v)

noncomputable def k43_0 : List (Known Try.prog E) := []
noncomputable def L43_0 (n id : Nat) (st : St G) : Option ((List (Int × Int)) × List Int) := none
set_option maxRecDepth 100000 in
theorem e43_0 (n : Nat) (v : (List (Int × Int)) × List Int) : ev Try.prog E (oracle k43_0) Try.f43.ntmps (fun x => mem x []) (L43_0 n) (finF Try.prog E Try.f43.results.toList [[]] w43_0.alts) 4000 [.code (Try.f43.body.getD .skip)] (argSt (v43_0.enc v)) = F43_0 v := by kernel_rfl
theorem ok43_0 : FnOk Try.prog E 43 v43_0.enc F43_0 w43_0.enc :=
  fn_known (fn := Try.f43) (c := (Try.f43.body.getD .skip)) Try.func43 (by kernel_rfl) rfl envOk (oracle_ok k43_0) mixed v43_0 F43_0 w43_0 [] [[]] (by kernel_rfl) [] 4000 L43_0 (by kernel_rfl)
    (fun _ h => nomatch h) (fun v _ h => ⟨0, (e43_0 _ v).trans h⟩) (fun _ => by kernel_rfl) (fun _ => by kernel_rfl) (fun _ _ => by kernel_rfl)
/- (chicane/profile.loop).back -/
abbrev A43_1 : Type := (List (Int × Int)) × List Int
abbrev R43_1 : Type := (List (Int × Int)) × List Int
def v43_1 : Pk G ((List (Int × Int)) × List Int) := (pk (Sh.fst (Sh.cons (Sh.agg (Sh.fst (Sh.cons (Sh.ros 24) (Sh.snd (Sh.cons (Sh.osl 0) Sh.nil))))) Sh.nil)) (Sh.fst (Sh.hrow 0 22 Sh.hnil)))
def w43_1 : Wk G ((List (Int × Int)) × List Int) := (Wk.one [(.fn (.func 68) [] [(.ptr 1 0 64 [(.ros 24), (.own 0 22)])])] (Pk.snd (pk (Sh.snd (Sh.cons (Sh.snd (Sh.fn (.func 68) Sh.nil (Sh.snd (Sh.cons (Sh.ptr 1 0) Sh.nil)))) Sh.nil)) (Sh.hfix 1 64 (Sh.fst (Sh.cons (Sh.ros 24) (Sh.snd (Sh.cons (Sh.osl 0) Sh.nil)))) (Sh.fst (Sh.hrow 0 22 Sh.hnil))))))
def F43_1 (v : (List (Int × Int)) × List Int) : Option ((List (Int × Int)) × List Int) :=
  some (v)

noncomputable def k43_1 : List (Known Try.prog E) := []
noncomputable def L43_1 (n id : Nat) (st : St G) : Option ((List (Int × Int)) × List Int) := none
set_option maxRecDepth 100000 in
theorem e43_1 (n : Nat) (v : (List (Int × Int)) × List Int) : ev Try.prog E (oracle k43_1) Try.f43.ntmps (fun x => mem x []) (L43_1 n) (finF Try.prog E Try.f43.results.toList [[(.own 0 22)]] w43_1.alts) 4000 [.code (Try.f43.body.getD .skip)] (argSt (v43_1.enc v)) = F43_1 v := by kernel_rfl
theorem ok43_1 : FnOk Try.prog E 43 v43_1.enc F43_1 w43_1.enc :=
  fn_known (fn := Try.f43) (c := (Try.f43.body.getD .skip)) Try.func43 (by kernel_rfl) rfl envOk (oracle_ok k43_1) mixed v43_1 F43_1 w43_1 [(.own 0 22)] [[(.own 0 22)]] (by kernel_rfl) [] 4000 L43_1 (by kernel_rfl)
    (fun _ h => nomatch h) (fun v _ h => ⟨0, (e43_1 _ v).trans h⟩) (fun _ => by kernel_rfl) (fun _ => by kernel_rfl) (fun _ _ => by kernel_rfl)
end Go.Proofs.Ytbmbnopgekbppaa.Ev
