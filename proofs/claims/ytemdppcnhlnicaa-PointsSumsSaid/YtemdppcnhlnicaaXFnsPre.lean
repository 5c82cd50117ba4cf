import Derived.Test.YtemdppcnhlnicaaXEnv
set_option linter.unusedVariables false
namespace Go.Proofs.Ytemdppcnhlnicaa.Ev
open Go Go.RowKit
/- cmp.isNaN[int] -/
abbrev A47_0 : Type := Int
abbrev R47_0 : Type := Bool
def v47_0 : Pk G Int := (Pk.fst (pk (Sh.fst (Sh.cons (Sh.int .i64) Sh.nil)) Sh.hnil))
def w47_0 : Wk G Bool := (Wk.one [.keep] (Pk.fst (pk (Sh.fst (Sh.cons Sh.bool Sh.nil)) Sh.hnil)))
def F47_0 (v : Int) : Option Bool :=
  some (v != v)

noncomputable def k47_0 : List (Known Try.prog E) := []
noncomputable def L47_0 (n id : Nat) (st : St G) : Option Bool := none
set_option maxRecDepth 100000 in
theorem e47_0 (n : Nat) (v : Int) : ev Try.prog E (oracle k47_0) Try.f47.ntmps (fun x => mem x []) (L47_0 n) (finF Try.prog E Try.f47.results.toList [[]] w47_0.alts) 4000 [.code (Try.f47.body.getD .skip)] (argSt (v47_0.enc v)) = F47_0 v := by kernel_rfl
theorem ok47_0 : FnOk Try.prog E 47 v47_0.enc F47_0 w47_0.enc :=
  fn_known (fn := Try.f47) (c := (Try.f47.body.getD .skip)) Try.func47 (by kernel_rfl) rfl envOk (oracle_ok k47_0) mixed v47_0 F47_0 w47_0 [] [[]] (by kernel_rfl) [] 4000 L47_0 (by kernel_rfl)
    (fun _ h => nomatch h) (fun v _ h => ⟨0, (e47_0 _ v).trans h⟩) (fun _ => by kernel_rfl) (fun _ => by kernel_rfl) (fun _ _ => by kernel_rfl)
/- cmp.Compare[int] -/
abbrev A35_0 : Type := Int × Int
abbrev R35_0 : Type := Int
def v35_0 : Pk G (Int × Int) := (Pk.fst (pk (Sh.cons (Sh.int .i64) (Sh.fst (Sh.cons (Sh.int .i64) Sh.nil))) Sh.hnil))
def w35_0 : Wk G Int := (Wk.one [.keep] (Pk.fst (pk (Sh.fst (Sh.cons (Sh.int .i64) Sh.nil)) Sh.hnil)))
def F35_0 (v : Int × Int) : Option Int :=
  (F47_0 v.1).bind fun r5 =>
  (F47_0 v.2).bind fun r6 =>
  bif r5 then
    bif r6 then
      some (0 : Int)
    else
      some (-1 : Int)
  else
    bif r6 then
      some (1 : Int)
    else
      bif (decide (v.1 < v.2)) then
        some (-1 : Int)
      else
        bif (decide (v.1 > v.2)) then
          some (1 : Int)
        else
          some (0 : Int)

noncomputable def k35_0 : List (Known Try.prog E) := [Known.of envOk [1] [.keep] v47_0 F47_0 w47_0 ok47_0]
noncomputable def L35_0 (n id : Nat) (st : St G) : Option Int := none
set_option maxRecDepth 100000 in
theorem e35_0 (n : Nat) (v : Int × Int) : ev Try.prog E (oracle k35_0) Try.f35.ntmps (fun x => mem x []) (L35_0 n) (finF Try.prog E Try.f35.results.toList [[]] w35_0.alts) 4000 [.code (Try.f35.body.getD .skip)] (argSt (v35_0.enc v)) = F35_0 v := by kernel_rfl
theorem ok35_0 : FnOk Try.prog E 35 v35_0.enc F35_0 w35_0.enc :=
  fn_known (fn := Try.f35) (c := (Try.f35.body.getD .skip)) Try.func35 (by kernel_rfl) rfl envOk (oracle_ok k35_0) mixed v35_0 F35_0 w35_0 [] [[]] (by kernel_rfl) [] 4000 L35_0 (by kernel_rfl)
    (fun _ h => nomatch h) (fun v _ h => ⟨0, (e35_0 _ v).trans h⟩) (fun _ => by kernel_rfl) (fun _ => by kernel_rfl) (fun _ _ => by kernel_rfl)
/- slices.Compare[[]int,int] -/
abbrev A36_0 : Type := List Int × List Int
abbrev R36_0 : Type := Int
def v36_0 : Pk G (List Int × List Int) := (Pk.fst (pk (Sh.cons (Sh.ros 3) (Sh.fst (Sh.cons (Sh.ros 3) Sh.nil))) Sh.hnil))
def w36_0 : Wk G Int := (Wk.one [.keep] (Pk.fst (pk (Sh.fst (Sh.cons (Sh.int .i64) Sh.nil)) Sh.hnil)))
def c36_0_2 : Pk G (List Int × List Int × List Int × Int × Int) := (Pk.fst (pk (Sh.cons (Sh.ros 3) (Sh.cons (Sh.ros 3) (Sh.cons (Sh.ros 3) (Sh.cons (Sh.int .i64) (Sh.fst (Sh.cons (Sh.int .i64) Sh.nil)))))) Sh.hnil))
def B36_0_2 (K : ((List Int × List Int × List Int × Int × Int) → Option Int)) (v : List Int × List Int × List Int × Int × Int) : Option Int :=
  bif (decide (v.2.2.2.2 < v.2.2.2.1)) then
    (rdx v.2.2.1 v.2.2.2.2).bind fun (x18 : Int) =>
    bif (decide (v.2.2.2.2 ≥ ((v.2.1).length : Int))) then
      some (1 : Int)
    else
      (rdx v.2.1 v.2.2.2.2).bind fun (x19 : Int) =>
      (F35_0 (x18, x19)).bind fun r20 =>
      bif (r20 != (0 : Int)) then
        some (r20)
      else
        let x21 : Int := (IntKind.wrap .i64 (v.2.2.2.2 + (1 : Int)))
        K (v.1, (v.2.1, (v.2.2.1, (v.2.2.2.1, x21))))
  else
    bif (decide (((v.1).length : Int) < ((v.2.1).length : Int))) then
      some (-1 : Int)
    else
      some (0 : Int)

def E36_0 (K : ((List Int × List Int × List Int × Int × Int) → Option Int)) (v : List Int × List Int) : Option Int :=
  K (v.1, (v.2, (v.1, (((v.1).length : Int), (0 : Int)))))

def K36_0 : Nat → ((List Int × List Int × List Int × Int × Int) → Option Int)
  | 0 => (fun _ => none)
  | n + 1 => (B36_0_2 (K36_0 n))
def fuel36_0 (v : List Int × List Int) : Nat := 1000
def F36_0 (v : List Int × List Int) : Option Int := E36_0 (K36_0 (fuel36_0 v)) v
noncomputable def k36_0 : List (Known Try.prog E) := [Known.of envOk [1, 1] [.keep, .keep] v35_0 F35_0 w35_0 ok35_0]
def s36_0_2 : List (Nat × Pat) := [(0, (.ros 3)), (1, (.ros 3)), (9, (.ros 3)), (10, .keep), (11, .keep)]
noncomputable def L36_0 (n id : Nat) (st : St G) : Option Int := match Nat.beq id 2 with | true => cutK Try.prog E s36_0_2 [] c36_0_2.dec (K36_0 n) st | false => none
set_option maxRecDepth 100000 in
theorem e36_0 (n : Nat) (v : List Int × List Int) : ev Try.prog E (oracle k36_0) Try.f36.ntmps (fun x => mem x [2]) (L36_0 n) (finF Try.prog E Try.f36.results.toList [[]] w36_0.alts) 4000 [.code (Try.f36.body.getD .skip)] (argSt (v36_0.enc v)) = E36_0 (K36_0 n) v := by kernel_rfl
set_option maxRecDepth 100000 in
theorem b36_0_2 (n : Nat) (v : List Int × List Int × List Int × Int × Int) : evCut Try.prog E (oracle k36_0) false 36 Try.f36.ntmps (fun x => mem x [2]) (L36_0 n) (finF Try.prog E Try.f36.results.toList [[]] w36_0.alts) 4000 (todoAt (Try.f36.body.getD .skip) 2) (cutSt s36_0_2 (c36_0_2.enc v)) = B36_0_2 (K36_0 n) v := by kernel_rfl
theorem ok36_0 : FnOk Try.prog E 36 v36_0.enc F36_0 w36_0.enc :=
  fn_known (fn := Try.f36) (c := (Try.f36.body.getD .skip)) Try.func36 (by kernel_rfl) rfl envOk (oracle_ok k36_0) mixed v36_0 F36_0 w36_0 [] [[]] (by kernel_rfl) [2] 4000 L36_0 (by kernel_rfl)
    (List.forall_mem_cons.2 ⟨⟨_, [], s36_0_2, c36_0_2.dec, c36_0_2.enc, fun n => (K36_0 n), c36_0_2.ok, fun _ _ => rfl, fun _ => rfl, by kernel_rfl, fun n v _ h => (b36_0_2 n v).trans h⟩, fun _ h => (nomatch h)⟩) (fun v _ h => ⟨fuel36_0 v, (e36_0 _ v).trans h⟩) (fun _ => by kernel_rfl) (fun _ => by kernel_rfl) (fun _ _ => by kernel_rfl)
/- cmp.Or[int] -/
abbrev A34_0 : Type := List Int
abbrev R34_0 : Type := Int
def v34_0 : Pk G (List Int) := (Pk.fst (pk (Sh.fst (Sh.cons (Sh.ros 3) Sh.nil)) Sh.hnil))
def w34_0 : Wk G Int := (Wk.one [.keep] (Pk.fst (pk (Sh.fst (Sh.cons (Sh.int .i64) Sh.nil)) Sh.hnil)))
def c34_0_3 : Pk G (Int × List Int × Int × Int) := (Pk.fst (pk (Sh.cons (Sh.int .i64) (Sh.cons (Sh.ros 3) (Sh.cons (Sh.int .i64) (Sh.fst (Sh.cons (Sh.int .i64) Sh.nil))))) Sh.hnil))
def B34_0_3 (K : ((Int × List Int × Int × Int) → Option Int)) (v : Int × List Int × Int × Int) : Option Int :=
  bif (decide (v.2.2.2 < v.2.2.1)) then
    (rdx v.2.1 v.2.2.2).bind fun (x30 : Int) =>
    bif (x30 != v.1) then
      some (x30)
    else
      let x31 : Int := (IntKind.wrap .i64 (v.2.2.2 + (1 : Int)))
      K (v.1, (v.2.1, (v.2.2.1, x31)))
  else
    some (v.1)

def E34_0 (K : ((Int × List Int × Int × Int) → Option Int)) (v : List Int) : Option Int :=
  K ((0 : Int), (v, (((v).length : Int), (0 : Int))))

def K34_0 : Nat → ((Int × List Int × Int × Int) → Option Int)
  | 0 => (fun _ => none)
  | n + 1 => (B34_0_3 (K34_0 n))
def fuel34_0 (v : List Int) : Nat := 1000
def F34_0 (v : List Int) : Option Int := E34_0 (K34_0 (fuel34_0 v)) v
noncomputable def k34_0 : List (Known Try.prog E) := []
def s34_0_3 : List (Nat × Pat) := [(3, .keep), (6, (.ros 3)), (7, .keep), (8, .keep)]
noncomputable def L34_0 (n id : Nat) (st : St G) : Option Int := match Nat.beq id 3 with | true => cutK Try.prog E s34_0_3 [] c34_0_3.dec (K34_0 n) st | false => none
set_option maxRecDepth 100000 in
theorem e34_0 (n : Nat) (v : List Int) : ev Try.prog E (oracle k34_0) Try.f34.ntmps (fun x => mem x [3]) (L34_0 n) (finF Try.prog E Try.f34.results.toList [[]] w34_0.alts) 4000 [.code (Try.f34.body.getD .skip)] (argSt (v34_0.enc v)) = E34_0 (K34_0 n) v := by kernel_rfl
set_option maxRecDepth 100000 in
theorem b34_0_3 (n : Nat) (v : Int × List Int × Int × Int) : evCut Try.prog E (oracle k34_0) false 34 Try.f34.ntmps (fun x => mem x [3]) (L34_0 n) (finF Try.prog E Try.f34.results.toList [[]] w34_0.alts) 4000 (todoAt (Try.f34.body.getD .skip) 3) (cutSt s34_0_3 (c34_0_3.enc v)) = B34_0_3 (K34_0 n) v := by kernel_rfl
theorem ok34_0 : FnOk Try.prog E 34 v34_0.enc F34_0 w34_0.enc :=
  fn_known (fn := Try.f34) (c := (Try.f34.body.getD .skip)) Try.func34 (by kernel_rfl) rfl envOk (oracle_ok k34_0) mixed v34_0 F34_0 w34_0 [] [[]] (by kernel_rfl) [3] 4000 L34_0 (by kernel_rfl)
    (List.forall_mem_cons.2 ⟨⟨_, [], s34_0_3, c34_0_3.dec, c34_0_3.enc, fun n => (K34_0 n), c34_0_3.ok, fun _ _ => rfl, fun _ => rfl, by kernel_rfl, fun n v _ h => (b34_0_3 n v).trans h⟩, fun _ h => (nomatch h)⟩) (fun v _ h => ⟨fuel34_0 v, (e34_0 _ v).trans h⟩) (fun _ => by kernel_rfl) (fun _ => by kernel_rfl) (fun _ _ => by kernel_rfl)
/- chicane/points.compare -/
abbrev A26_0 : Type := (Int × Int × List Int) × Int × Int × List Int
abbrev R26_0 : Type := Int
def v26_0 : Pk G ((Int × Int × List Int) × Int × Int × List Int) := (Pk.fst (pk (Sh.cons (Sh.agg (Sh.cons (Sh.int .i64) (Sh.cons (Sh.int .i64) (Sh.fst (Sh.cons (Sh.ros 3) Sh.nil))))) (Sh.fst (Sh.cons (Sh.agg (Sh.cons (Sh.int .i64) (Sh.cons (Sh.int .i64) (Sh.fst (Sh.cons (Sh.ros 3) Sh.nil))))) Sh.nil))) Sh.hnil))
def w26_0 : Wk G Int := (Wk.one [.keep] (Pk.fst (pk (Sh.fst (Sh.cons (Sh.int .i64) Sh.nil)) Sh.hnil)))
def F26_0 (v : (Int × Int × List Int) × Int × Int × List Int) : Option Int :=
  (F35_0 (v.2.2.1, v.1.2.1)).bind fun r37 =>
  (F36_0 (v.2.2.2, v.1.2.2)).bind fun r38 =>
  (F35_0 (v.1.1, v.2.1)).bind fun r39 =>
  (F34_0 ([r37, r38, r39] : List Int)).bind fun r40 =>
  some (r40)

noncomputable def k26_0 : List (Known Try.prog E) := [Known.of envOk [1, 1] [.keep, .keep] v35_0 F35_0 w35_0 ok35_0, Known.of envOk [7, 7] [(.ros 3), (.ros 3)] v36_0 F36_0 w36_0 ok36_0, Known.of envOk [7] [(.ros 3)] v34_0 F34_0 w34_0 ok34_0]
noncomputable def L26_0 (n id : Nat) (st : St G) : Option Int := none
set_option maxRecDepth 100000 in
theorem e26_0 (n : Nat) (v : (Int × Int × List Int) × Int × Int × List Int) : ev Try.prog E (oracle k26_0) Try.f26.ntmps (fun x => mem x []) (L26_0 n) (finF Try.prog E Try.f26.results.toList [[]] w26_0.alts) 4000 [.code (Try.f26.body.getD .skip)] (argSt (v26_0.enc v)) = F26_0 v := by kernel_rfl
theorem ok26_0 : FnOk Try.prog E 26 v26_0.enc F26_0 w26_0.enc :=
  fn_known (fn := Try.f26) (c := (Try.f26.body.getD .skip)) Try.func26 (by kernel_rfl) rfl envOk (oracle_ok k26_0) mixed v26_0 F26_0 w26_0 [] [[]] (by kernel_rfl) [] 4000 L26_0 (by kernel_rfl)
    (fun _ h => nomatch h) (fun v _ h => ⟨0, (e26_0 _ v).trans h⟩) (fun _ => by kernel_rfl) (fun _ => by kernel_rfl) (fun _ _ => by kernel_rfl)
end Go.Proofs.Ytemdppcnhlnicaa.Ev
