import Derived.Test.YtemdppcnhlnicaaXSort
set_option linter.unusedVariables false
namespace Go.Proofs.Ytemdppcnhlnicaa.Ev
open Go Go.RowKit
/- chicane/chicanelaw48.few -/
abbrev A7_0 : Type := (List Int × Int) × List (List Int × Int)
abbrev R7_0 : Type := Bool
def v7_0 : Pk G ((List Int × Int) × List (List Int × Int)) := (Pk.fst (pk (Sh.cons (Sh.agg (Sh.cons (Sh.ros 3) (Sh.fst (Sh.cons (Sh.int .i64) Sh.nil)))) (Sh.fst (Sh.cons (Sh.ros 26) Sh.nil))) Sh.hnil))
def w7_0 : Wk G Bool := (Wk.one [.keep] (Pk.fst (pk (Sh.fst (Sh.cons Sh.bool Sh.nil)) Sh.hnil)))
def c7_0_2 : Pk G (((List (List Int × Int)) × Int) × List Int × Int) := (pk (Sh.cons (Sh.ros 26) (Sh.snd (Sh.cons (Sh.ptr 0 0) (Sh.fst (Sh.cons (Sh.int .i64) Sh.nil))))) (Sh.fst (Sh.hfix 0 24 (Sh.cons (Sh.ros 3) (Sh.fst (Sh.cons (Sh.int .i64) Sh.nil))) Sh.hnil)))
def B7_0_2 (K : ((((List (List Int × Int)) × Int) × List Int × Int) → Option Bool)) (v : ((List (List Int × Int)) × Int) × List Int × Int) : Option Bool :=
  bif (decide (v.1.2 < ((v.1.1).length : Int))) then
    bif (decide (v.1.2 < (30 : Int))) then
      (rdx v.1.1 v.1.2).bind fun (x47 : List Int × Int) =>
      bif (decide (((x47.1).length : Int) > (60 : Int))) then
        some (false)
      else
        let x48 : Int := (IntKind.wrap .i64 (v.1.2 + (1 : Int)))
        K ((v.1.1, x48), v.2)
    else
      bif (decide (((v.1.1).length : Int) ≤ (30 : Int))) then
        some (decide (((v.2.1).length : Int) ≤ (100 : Int)))
      else
        some (false)
  else
    bif (decide (((v.1.1).length : Int) ≤ (30 : Int))) then
      some (decide (((v.2.1).length : Int) ≤ (100 : Int)))
    else
      some (false)

def E7_0 (K : ((((List (List Int × Int)) × Int) × List Int × Int) → Option Bool)) (v : (List Int × Int) × List (List Int × Int)) : Option Bool :=
  K ((v.2, (0 : Int)), v.1)

def K7_0 : Nat → ((((List (List Int × Int)) × Int) × List Int × Int) → Option Bool)
  | 0 => (fun _ => none)
  | n + 1 => (B7_0_2 (K7_0 n))
def fuel7_0 (v : (List Int × Int) × List (List Int × Int)) : Nat := 1000
def F7_0 (v : (List Int × Int) × List (List Int × Int)) : Option Bool := E7_0 (K7_0 (fuel7_0 v)) v
noncomputable def k7_0 : List (Known Try.prog E) := []
def s7_0_2 : List (Nat × Pat) := [(1, (.ros 26)), (2, (.ptr 0 0 24 [(.ros 3), .keep])), (5, .keep)]
noncomputable def L7_0 (n id : Nat) (st : St G) : Option Bool := match Nat.beq id 2 with | true => cutK Try.prog E s7_0_2 [] c7_0_2.dec (K7_0 n) st | false => none
set_option maxRecDepth 100000 in
theorem e7_0 (n : Nat) (v : (List Int × Int) × List (List Int × Int)) : ev Try.prog E (oracle k7_0) Try.f7.ntmps (fun x => mem x [2]) (L7_0 n) (finF Try.prog E Try.f7.results.toList [[]] w7_0.alts) 4000 [.code (Try.f7.body.getD .skip)] (argSt (v7_0.enc v)) = E7_0 (K7_0 n) v := by kernel_rfl
set_option maxRecDepth 100000 in
theorem b7_0_2 (n : Nat) (v : ((List (List Int × Int)) × Int) × List Int × Int) : evCut Try.prog E (oracle k7_0) false 7 Try.f7.ntmps (fun x => mem x [2]) (L7_0 n) (finF Try.prog E Try.f7.results.toList [[]] w7_0.alts) 4000 (todoAt (Try.f7.body.getD .skip) 2) (cutSt s7_0_2 (c7_0_2.enc v)) = B7_0_2 (K7_0 n) v := by kernel_rfl
theorem ok7_0 : FnOk Try.prog E 7 v7_0.enc F7_0 w7_0.enc :=
  fn_known (fn := Try.f7) (c := (Try.f7.body.getD .skip)) Try.func7 (by kernel_rfl) rfl envOk (oracle_ok k7_0) mixed v7_0 F7_0 w7_0 [] [[]] (by kernel_rfl) [2] 4000 L7_0 (by kernel_rfl)
    (List.forall_mem_cons.2 ⟨⟨_, [], s7_0_2, c7_0_2.dec, c7_0_2.enc, fun n => (K7_0 n), c7_0_2.ok, fun _ _ => rfl, fun _ => rfl, by kernel_rfl, fun n v _ h => (b7_0_2 n v).trans h⟩, fun _ h => (nomatch h)⟩) (fun v _ h => ⟨fuel7_0 v, (e7_0 _ v).trans h⟩) (fun _ => by kernel_rfl) (fun _ => by kernel_rfl) (fun _ _ => by kernel_rfl)
/- chicane/chicanelaw48.plain -/
abbrev A8_0 : Type := (List Int × Int) × List (List Int × Int)
abbrev R8_0 : Type := (List Int × Int) × List (List Int × Int)
def v8_0 : Pk G ((List Int × Int) × List (List Int × Int)) := (Pk.fst (pk (Sh.cons (Sh.agg (Sh.cons (Sh.ros 3) (Sh.fst (Sh.cons (Sh.int .i64) Sh.nil)))) (Sh.fst (Sh.cons (Sh.ros 26) Sh.nil))) Sh.hnil))
def w8_0 : Wk G ((List Int × Int) × List (List Int × Int)) := (Wk.one [(.agg [(.ros 3), .keep]), (.own 0 38)] (pk (Sh.fst (Sh.cons (Sh.agg (Sh.cons (Sh.ros 3) (Sh.fst (Sh.cons (Sh.int .i64) Sh.nil)))) (Sh.snd (Sh.cons (Sh.osl 0) Sh.nil)))) (Sh.fst (Sh.hrow 0 38 Sh.hnil))))
def c8_0_3 : Pk G (((List (List Int × Int)) × Int) × (List (List Int × Int)) × Int × List Int × List Int × Int) := (pk (Sh.cons (Sh.ros 26) (Sh.snd (Sh.cons (Sh.ptr 0 0) (Sh.snd (Sh.cons (Sh.ptr 1 0) (Sh.snd (Sh.cons (Sh.osl 3) (Sh.fst (Sh.cons (Sh.int .i64) Sh.nil))))))))) (Sh.hrow 3 38 (Sh.hfix 1 29 (Sh.snd (Sh.cons (Sh.osl 2) (Sh.fst (Sh.cons (Sh.int .i64) Sh.nil)))) (Sh.hrow 2 3 (Sh.fst (Sh.hfix 0 24 (Sh.cons (Sh.ros 3) (Sh.fst (Sh.cons (Sh.int .i64) Sh.nil))) Sh.hnil))))))
def B8_0_3 (K : ((((List (List Int × Int)) × Int) × (List (List Int × Int)) × Int × List Int × List Int × Int) → Option ((List Int × Int) × List (List Int × Int)))) (v : ((List (List Int × Int)) × Int) × (List (List Int × Int)) × Int × List Int × List Int × Int) : Option ((List Int × Int) × List (List Int × Int)) :=
  bif (decide (v.1.2 < ((v.1.1).length : Int))) then
    (rdx v.1.1 v.1.2).bind fun (x60 : List Int × Int) =>
    (rdx v.1.1 v.1.2).bind fun (x61 : List Int × Int) =>
    (chk (decide (((v.2.1).length + (([(x60.1, x61.2)] : List (List Int × Int))).length) * 32 ≤ 140737488355328))).bind fun _ =>
    let x62 : List (List Int × Int) := (v.2.1 ++ ([(x60.1, x61.2)] : List (List Int × Int)))
    let x63 : Int := (IntKind.wrap .i64 (v.1.2 + (1 : Int)))
    K ((v.1.1, x63), (x62, v.2.2))
  else
    some (v.2.2.2.2, v.2.1)

def E8_0 (K : ((((List (List Int × Int)) × Int) × (List (List Int × Int)) × Int × List Int × List Int × Int) → Option ((List Int × Int) × List (List Int × Int)))) (v : (List Int × Int) × List (List Int × Int)) : Option ((List Int × Int) × List (List Int × Int)) :=
  K ((v.2, (0 : Int)), (([] : List (List Int × Int)), ((0 : Int), (([] : List Int), v.1))))

def K8_0 : Nat → ((((List (List Int × Int)) × Int) × (List (List Int × Int)) × Int × List Int × List Int × Int) → Option ((List Int × Int) × List (List Int × Int)))
  | 0 => (fun _ => none)
  | n + 1 => (B8_0_3 (K8_0 n))
def fuel8_0 (v : (List Int × Int) × List (List Int × Int)) : Nat := 1000
def F8_0 (v : (List Int × Int) × List (List Int × Int)) : Option ((List Int × Int) × List (List Int × Int)) := E8_0 (K8_0 (fuel8_0 v)) v
noncomputable def k8_0 : List (Known Try.prog E) := []
def s8_0_3 : List (Nat × Pat) := [(1, (.ros 26)), (2, (.ptr 0 0 24 [(.ros 3), .keep])), (4, (.ptr 1 0 29 [(.own 2 3), .keep])), (6, (.own 3 38)), (7, .keep)]
noncomputable def L8_0 (n id : Nat) (st : St G) : Option ((List Int × Int) × List (List Int × Int)) := match Nat.beq id 3 with | true => cutK Try.prog E s8_0_3 [] c8_0_3.dec (K8_0 n) st | false => none
set_option maxRecDepth 100000 in
theorem e8_0 (n : Nat) (v : (List Int × Int) × List (List Int × Int)) : ev Try.prog E (oracle k8_0) Try.f8.ntmps (fun x => mem x [3]) (L8_0 n) (finF Try.prog E Try.f8.results.toList [[]] w8_0.alts) 4000 [.code (Try.f8.body.getD .skip)] (argSt (v8_0.enc v)) = E8_0 (K8_0 n) v := by kernel_rfl
set_option maxRecDepth 100000 in
theorem b8_0_3 (n : Nat) (v : ((List (List Int × Int)) × Int) × (List (List Int × Int)) × Int × List Int × List Int × Int) : evCut Try.prog E (oracle k8_0) false 8 Try.f8.ntmps (fun x => mem x [3]) (L8_0 n) (finF Try.prog E Try.f8.results.toList [[]] w8_0.alts) 4000 (todoAt (Try.f8.body.getD .skip) 3) (cutSt s8_0_3 (c8_0_3.enc v)) = B8_0_3 (K8_0 n) v := by kernel_rfl
theorem ok8_0 : FnOk Try.prog E 8 v8_0.enc F8_0 w8_0.enc :=
  fn_known (fn := Try.f8) (c := (Try.f8.body.getD .skip)) Try.func8 (by kernel_rfl) rfl envOk (oracle_ok k8_0) mixed v8_0 F8_0 w8_0 [] [[]] (by kernel_rfl) [3] 4000 L8_0 (by kernel_rfl)
    (List.forall_mem_cons.2 ⟨⟨_, [], s8_0_3, c8_0_3.dec, c8_0_3.enc, fun n => (K8_0 n), c8_0_3.ok, fun _ _ => rfl, fun _ => rfl, by kernel_rfl, fun n v _ h => (b8_0_3 n v).trans h⟩, fun _ h => (nomatch h)⟩) (fun v _ h => ⟨fuel8_0 v, (e8_0 _ v).trans h⟩) (fun _ => by kernel_rfl) (fun _ => by kernel_rfl) (fun _ _ => by kernel_rfl)
/- chicane/chicanelaw48.plain -/
abbrev A8_1 : Type := (List Int × Int) × List (List Int × Int)
abbrev R8_1 : Type := (List Int × Int) × (List (List Int × Int)) × List (List Int × Int)
def v8_1 : Pk G ((List Int × Int) × List (List Int × Int)) := (pk (Sh.fst (Sh.cons (Sh.agg (Sh.cons (Sh.ros 3) (Sh.fst (Sh.cons (Sh.int .i64) Sh.nil)))) (Sh.snd (Sh.cons (Sh.osl 0) Sh.nil)))) (Sh.fst (Sh.hrow 0 26 Sh.hnil)))
def w8_1 : Wk G ((List Int × Int) × (List (List Int × Int)) × List (List Int × Int)) := (Wk.one [(.agg [(.ros 3), .keep]), (.own 1 38)] (pk (Sh.fst (Sh.cons (Sh.agg (Sh.cons (Sh.ros 3) (Sh.fst (Sh.cons (Sh.int .i64) Sh.nil)))) (Sh.snd (Sh.cons (Sh.osl 1) Sh.nil)))) (Sh.hrow 1 38 (Sh.fst (Sh.hrow 0 26 Sh.hnil)))))
def c8_1_3 : Pk G (Int × (List (List Int × Int)) × Int × List Int × (List Int × Int) × List (List Int × Int)) := (pk (Sh.snd (Sh.cons (Sh.osl 0) (Sh.snd (Sh.cons (Sh.ptr 1 0) (Sh.snd (Sh.cons (Sh.ptr 2 0) (Sh.snd (Sh.cons (Sh.osl 4) (Sh.fst (Sh.cons (Sh.int .i64) Sh.nil)))))))))) (Sh.hrow 4 38 (Sh.hfix 2 29 (Sh.snd (Sh.cons (Sh.osl 3) (Sh.fst (Sh.cons (Sh.int .i64) Sh.nil)))) (Sh.hrow 3 3 (Sh.hfix 1 24 (Sh.cons (Sh.ros 3) (Sh.fst (Sh.cons (Sh.int .i64) Sh.nil))) (Sh.fst (Sh.hrow 0 26 Sh.hnil)))))))
def B8_1_3 (K : ((Int × (List (List Int × Int)) × Int × List Int × (List Int × Int) × List (List Int × Int)) → Option ((List Int × Int) × (List (List Int × Int)) × List (List Int × Int)))) (v : Int × (List (List Int × Int)) × Int × List Int × (List Int × Int) × List (List Int × Int)) : Option ((List Int × Int) × (List (List Int × Int)) × List (List Int × Int)) :=
  bif (decide (v.1 < ((v.2.2.2.2.2).length : Int))) then
    (idx v.1 (v.2.2.2.2.2).length).bind fun (x78 : Nat) =>
    ((v.2.2.2.2.2)[x78]?).bind fun (x79 : List Int × Int) =>
    (idx v.1 (v.2.2.2.2.2).length).bind fun (x80 : Nat) =>
    ((v.2.2.2.2.2)[x80]?).bind fun (x81 : List Int × Int) =>
    (chk (decide (((v.2.1).length + (([(x79.1, x81.2)] : List (List Int × Int))).length) * 32 ≤ 140737488355328))).bind fun _ =>
    let x82 : List (List Int × Int) := (v.2.1 ++ ([(x79.1, x81.2)] : List (List Int × Int)))
    let x83 : Int := (IntKind.wrap .i64 (v.1 + (1 : Int)))
    K (x83, (x82, v.2.2))
  else
    some (v.2.2.2.2.1, (v.2.1, v.2.2.2.2.2))

def E8_1 (K : ((Int × (List (List Int × Int)) × Int × List Int × (List Int × Int) × List (List Int × Int)) → Option ((List Int × Int) × (List (List Int × Int)) × List (List Int × Int)))) (v : (List Int × Int) × List (List Int × Int)) : Option ((List Int × Int) × (List (List Int × Int)) × List (List Int × Int)) :=
  K ((0 : Int), (([] : List (List Int × Int)), ((0 : Int), (([] : List Int), v))))

def K8_1 : Nat → ((Int × (List (List Int × Int)) × Int × List Int × (List Int × Int) × List (List Int × Int)) → Option ((List Int × Int) × (List (List Int × Int)) × List (List Int × Int)))
  | 0 => (fun _ => none)
  | n + 1 => (B8_1_3 (K8_1 n))
def fuel8_1 (v : (List Int × Int) × List (List Int × Int)) : Nat := 1000
def F8_1 (v : (List Int × Int) × List (List Int × Int)) : Option ((List Int × Int) × (List (List Int × Int)) × List (List Int × Int)) := E8_1 (K8_1 (fuel8_1 v)) v
noncomputable def k8_1 : List (Known Try.prog E) := []
def s8_1_3 : List (Nat × Pat) := [(1, (.own 0 26)), (2, (.ptr 1 0 24 [(.ros 3), .keep])), (4, (.ptr 2 0 29 [(.own 3 3), .keep])), (6, (.own 4 38)), (7, .keep)]
noncomputable def L8_1 (n id : Nat) (st : St G) : Option ((List Int × Int) × (List (List Int × Int)) × List (List Int × Int)) := match Nat.beq id 3 with | true => cutK Try.prog E s8_1_3 [(.own 0 26)] c8_1_3.dec (K8_1 n) st | false => none
set_option maxRecDepth 100000 in
theorem e8_1 (n : Nat) (v : (List Int × Int) × List (List Int × Int)) : ev Try.prog E (oracle k8_1) Try.f8.ntmps (fun x => mem x [3]) (L8_1 n) (finF Try.prog E Try.f8.results.toList [[(.own 0 26)]] w8_1.alts) 4000 [.code (Try.f8.body.getD .skip)] (argSt (v8_1.enc v)) = E8_1 (K8_1 n) v := by kernel_rfl
set_option maxRecDepth 100000 in
theorem b8_1_3 (n : Nat) (v : Int × (List (List Int × Int)) × Int × List Int × (List Int × Int) × List (List Int × Int)) : evCut Try.prog E (oracle k8_1) false 8 Try.f8.ntmps (fun x => mem x [3]) (L8_1 n) (finF Try.prog E Try.f8.results.toList [[(.own 0 26)]] w8_1.alts) 4000 (todoAt (Try.f8.body.getD .skip) 3) (cutSt s8_1_3 (c8_1_3.enc v)) = B8_1_3 (K8_1 n) v := by kernel_rfl
theorem ok8_1 : FnOk Try.prog E 8 v8_1.enc F8_1 w8_1.enc :=
  fn_known (fn := Try.f8) (c := (Try.f8.body.getD .skip)) Try.func8 (by kernel_rfl) rfl envOk (oracle_ok k8_1) mixed v8_1 F8_1 w8_1 [(.own 0 26)] [[(.own 0 26)]] (by kernel_rfl) [3] 4000 L8_1 (by kernel_rfl)
    (List.forall_mem_cons.2 ⟨⟨_, [(.own 0 26)], s8_1_3, c8_1_3.dec, c8_1_3.enc, fun n => (K8_1 n), c8_1_3.ok, fun _ _ => rfl, fun _ => rfl, by kernel_rfl, fun n v _ h => (b8_1_3 n v).trans h⟩, fun _ h => (nomatch h)⟩) (fun v _ h => ⟨fuel8_1 v, (e8_1 _ v).trans h⟩) (fun _ => by kernel_rfl) (fun _ => by kernel_rfl) (fun _ _ => by kernel_rfl)
/- chicane/points.Right$1 -/
abbrev A19_0 : Type := Int
abbrev R19_0 : Type := Bool
def v19_0 : Pk G Int := (Pk.fst (pk (Sh.fst (Sh.cons (Sh.int .i64) Sh.nil)) Sh.hnil))
def w19_0 : Wk G Bool := (Wk.one [.keep] (Pk.fst (pk (Sh.fst (Sh.cons Sh.bool Sh.nil)) Sh.hnil)))
def F19_0 (v : Int) : Option Bool :=
  bif (decide (v < (0 : Int))) then
    some (true)
  else
    some (decide (v > (1000 : Int)))

noncomputable def k19_0 : List (Known Try.prog E) := []
noncomputable def L19_0 (n id : Nat) (st : St G) : Option Bool := none
set_option maxRecDepth 100000 in
theorem e19_0 (n : Nat) (v : Int) : ev Try.prog E (oracle k19_0) Try.f19.ntmps (fun x => mem x []) (L19_0 n) (finF Try.prog E Try.f19.results.toList [[]] w19_0.alts) 4000 [.code (Try.f19.body.getD .skip)] (argSt (v19_0.enc v)) = F19_0 v := by kernel_rfl
theorem ok19_0 : FnOk Try.prog E 19 v19_0.enc F19_0 w19_0.enc :=
  fn_known (fn := Try.f19) (c := (Try.f19.body.getD .skip)) Try.func19 (by kernel_rfl) rfl envOk (oracle_ok k19_0) mixed v19_0 F19_0 w19_0 [] [[]] (by kernel_rfl) [] 4000 L19_0 (by kernel_rfl)
    (fun _ h => nomatch h) (fun v _ h => ⟨0, (e19_0 _ v).trans h⟩) (fun _ => by kernel_rfl) (fun _ => by kernel_rfl) (fun _ _ => by kernel_rfl)
/- slices.IndexFunc[[]int,int] -/
abbrev A31_0 : Type := List Int
abbrev R31_0 : Type := Int
def v31_0 : Pk G (List Int) := (Pk.fst (pk (Sh.fst (Sh.cons (Sh.ros 3) (Sh.snd (Sh.cons (Sh.snd (Sh.fn (.func 19) Sh.nil Sh.nil)) Sh.nil)))) Sh.hnil))
def w31_0 : Wk G Int := (Wk.one [.keep] (Pk.fst (pk (Sh.fst (Sh.cons (Sh.int .i64) Sh.nil)) Sh.hnil)))
def c31_0_2 : Pk G (List Int × Int × Int) := (Pk.fst (pk (Sh.cons (Sh.ros 3) (Sh.snd (Sh.cons (Sh.snd (Sh.fn (.func 19) Sh.nil Sh.nil)) (Sh.cons (Sh.int .i64) (Sh.fst (Sh.cons (Sh.int .i64) Sh.nil)))))) Sh.hnil))
def B31_0_2 (K : ((List Int × Int × Int) → Option Int)) (v : List Int × Int × Int) : Option Int :=
  bif (decide (v.2.2 < v.2.1)) then
    (rdx v.1 v.2.2).bind fun (x94 : Int) =>
    (F19_0 x94).bind fun r95 =>
    bif r95 then
      some (v.2.2)
    else
      let x96 : Int := (IntKind.wrap .i64 (v.2.2 + (1 : Int)))
      K (v.1, (v.2.1, x96))
  else
    some (-1 : Int)

def E31_0 (K : ((List Int × Int × Int) → Option Int)) (v : List Int) : Option Int :=
  K (v, (((v).length : Int), (0 : Int)))

def K31_0 : Nat → ((List Int × Int × Int) → Option Int)
  | 0 => (fun _ => none)
  | n + 1 => (B31_0_2 (K31_0 n))
def fuel31_0 (v : List Int) : Nat := 1000
def F31_0 (v : List Int) : Option Int := E31_0 (K31_0 (fuel31_0 v)) v
noncomputable def k31_0 : List (Known Try.prog E) := [Known.of envOk [1] [.keep] v19_0 F19_0 w19_0 ok19_0]
def s31_0_2 : List (Nat × Pat) := [(0, (.ros 3)), (1, (.fn (.func 19) [] [])), (7, .keep), (8, .keep)]
noncomputable def L31_0 (n id : Nat) (st : St G) : Option Int := match Nat.beq id 2 with | true => cutK Try.prog E s31_0_2 [] c31_0_2.dec (K31_0 n) st | false => none
set_option maxRecDepth 100000 in
theorem e31_0 (n : Nat) (v : List Int) : ev Try.prog E (oracle k31_0) Try.f31.ntmps (fun x => mem x [2]) (L31_0 n) (finF Try.prog E Try.f31.results.toList [[]] w31_0.alts) 4000 [.code (Try.f31.body.getD .skip)] (argSt (v31_0.enc v)) = E31_0 (K31_0 n) v := by kernel_rfl
set_option maxRecDepth 100000 in
theorem b31_0_2 (n : Nat) (v : List Int × Int × Int) : evCut Try.prog E (oracle k31_0) false 31 Try.f31.ntmps (fun x => mem x [2]) (L31_0 n) (finF Try.prog E Try.f31.results.toList [[]] w31_0.alts) 4000 (todoAt (Try.f31.body.getD .skip) 2) (cutSt s31_0_2 (c31_0_2.enc v)) = B31_0_2 (K31_0 n) v := by kernel_rfl
theorem ok31_0 : FnOk Try.prog E 31 v31_0.enc F31_0 w31_0.enc :=
  fn_known (fn := Try.f31) (c := (Try.f31.body.getD .skip)) Try.func31 (by kernel_rfl) rfl envOk (oracle_ok k31_0) mixed v31_0 F31_0 w31_0 [] [[]] (by kernel_rfl) [2] 4000 L31_0 (by kernel_rfl)
    (List.forall_mem_cons.2 ⟨⟨_, [], s31_0_2, c31_0_2.dec, c31_0_2.enc, fun n => (K31_0 n), c31_0_2.ok, fun _ _ => rfl, fun _ => rfl, by kernel_rfl, fun n v _ h => (b31_0_2 n v).trans h⟩, fun _ h => (nomatch h)⟩) (fun v _ h => ⟨fuel31_0 v, (e31_0 _ v).trans h⟩) (fun _ => by kernel_rfl) (fun _ => by kernel_rfl) (fun _ _ => by kernel_rfl)
/- slices.ContainsFunc[[]int,int] -/
abbrev A20_0 : Type := List Int
abbrev R20_0 : Type := Bool
def v20_0 : Pk G (List Int) := (Pk.fst (pk (Sh.fst (Sh.cons (Sh.ros 3) (Sh.snd (Sh.cons (Sh.snd (Sh.fn (.func 19) Sh.nil Sh.nil)) Sh.nil)))) Sh.hnil))
def w20_0 : Wk G Bool := (Wk.one [.keep] (Pk.fst (pk (Sh.fst (Sh.cons Sh.bool Sh.nil)) Sh.hnil)))
def F20_0 (v : List Int) : Option Bool :=
  (F31_0 v).bind fun r99 =>
  some (decide (r99 ≥ (0 : Int)))

noncomputable def k20_0 : List (Known Try.prog E) := [Known.of envOk [7, 119] [(.ros 3), (.fn (.func 19) [] [])] v31_0 F31_0 w31_0 ok31_0]
noncomputable def L20_0 (n id : Nat) (st : St G) : Option Bool := none
set_option maxRecDepth 100000 in
theorem e20_0 (n : Nat) (v : List Int) : ev Try.prog E (oracle k20_0) Try.f20.ntmps (fun x => mem x []) (L20_0 n) (finF Try.prog E Try.f20.results.toList [[]] w20_0.alts) 4000 [.code (Try.f20.body.getD .skip)] (argSt (v20_0.enc v)) = F20_0 v := by kernel_rfl
theorem ok20_0 : FnOk Try.prog E 20 v20_0.enc F20_0 w20_0.enc :=
  fn_known (fn := Try.f20) (c := (Try.f20.body.getD .skip)) Try.func20 (by kernel_rfl) rfl envOk (oracle_ok k20_0) mixed v20_0 F20_0 w20_0 [] [[]] (by kernel_rfl) [] 4000 L20_0 (by kernel_rfl)
    (fun _ h => nomatch h) (fun v _ h => ⟨0, (e20_0 _ v).trans h⟩) (fun _ => by kernel_rfl) (fun _ => by kernel_rfl) (fun _ _ => by kernel_rfl)
/- chicane/points.Right -/
abbrev A9_0 : Type := List Int × Int
abbrev R9_0 : Type := Int
def v9_0 : Pk G (List Int × Int) := (Pk.fst (pk (Sh.fst (Sh.cons (Sh.agg (Sh.cons (Sh.ros 3) (Sh.fst (Sh.cons (Sh.int .i64) Sh.nil)))) Sh.nil)) Sh.hnil))
def w9_0 : Wk G Int := (Wk.one [.keep] (Pk.fst (pk (Sh.fst (Sh.cons (Sh.int .i64) Sh.nil)) Sh.hnil)))
def F9_0 (v : List Int × Int) : Option Int :=
  bif (decide (((v.1).length : Int) < (1 : Int))) then
    some (42 : Int)
  else
    bif (decide (((v.1).length : Int) > (50 : Int))) then
      some (42 : Int)
    else
      (F19_0 v.2).bind fun r103 =>
      bif r103 then
        some (40 : Int)
      else
        (F20_0 v.1).bind fun r104 =>
        bif r104 then
          some (40 : Int)
        else
          some (0 : Int)

noncomputable def k9_0 : List (Known Try.prog E) := [Known.of envOk [1] [.keep] v19_0 F19_0 w19_0 ok19_0, Known.of envOk [7, 119] [(.ros 3), (.fn (.func 19) [] [])] v20_0 F20_0 w20_0 ok20_0]
noncomputable def L9_0 (n id : Nat) (st : St G) : Option Int := none
set_option maxRecDepth 100000 in
theorem e9_0 (n : Nat) (v : List Int × Int) : ev Try.prog E (oracle k9_0) Try.f9.ntmps (fun x => mem x []) (L9_0 n) (finF Try.prog E Try.f9.results.toList [[]] w9_0.alts) 4000 [.code (Try.f9.body.getD .skip)] (argSt (v9_0.enc v)) = F9_0 v := by kernel_rfl
theorem ok9_0 : FnOk Try.prog E 9 v9_0.enc F9_0 w9_0.enc :=
  fn_known (fn := Try.f9) (c := (Try.f9.body.getD .skip)) Try.func9 (by kernel_rfl) rfl envOk (oracle_ok k9_0) mixed v9_0 F9_0 w9_0 [] [[]] (by kernel_rfl) [] 4000 L9_0 (by kernel_rfl)
    (fun _ h => nomatch h) (fun v _ h => ⟨0, (e9_0 _ v).trans h⟩) (fun _ => by kernel_rfl) (fun _ => by kernel_rfl) (fun _ _ => by kernel_rfl)
/- chicane/chicaneref48.Right -/
abbrev A10_0 : Type := List Int × Int
abbrev R10_0 : Type := Int
def v10_0 : Pk G (List Int × Int) := (Pk.fst (pk (Sh.fst (Sh.cons (Sh.agg (Sh.cons (Sh.ros 3) (Sh.fst (Sh.cons (Sh.int .i64) Sh.nil)))) Sh.nil)) Sh.hnil))
def w10_0 : Wk G Int := (Wk.one [.keep] (Pk.fst (pk (Sh.fst (Sh.cons (Sh.int .i64) Sh.nil)) Sh.hnil)))
def c10_0_5 : Pk G ((Bool × Int) × List Int × Int) := (pk (Sh.snd (Sh.cons (Sh.ptr 0 0) (Sh.cons Sh.bool (Sh.fst (Sh.cons (Sh.int .i64) Sh.nil))))) (Sh.fst (Sh.hfix 0 29 (Sh.cons (Sh.ros 3) (Sh.fst (Sh.cons (Sh.int .i64) Sh.nil))) Sh.hnil)))
def B10_0_5 (K : (((Bool × Int) × List Int × Int) → Option Int)) (v : (Bool × Int) × List Int × Int) : Option Int :=
  bif (decide (v.1.2 < ((v.2.1).length : Int))) then
    bif v.1.1 then
      (rdx v.2.1 v.1.2).bind fun (x118 : Int) =>
      bif (decide (x118 ≥ (0 : Int))) then
        (rdx v.2.1 v.1.2).bind fun (x119 : Int) =>
        let x120 : Int := (IntKind.wrap .i64 (v.1.2 + (1 : Int)))
        K (((decide (x119 ≤ (1000 : Int))), x120), v.2)
      else
        let x121 : Int := (IntKind.wrap .i64 (v.1.2 + (1 : Int)))
        K ((false, x121), v.2)
    else
      let x122 : Int := (IntKind.wrap .i64 (v.1.2 + (1 : Int)))
      K ((false, x122), v.2)
  else
    bif (!v.1.1) then
      some (40 : Int)
    else
      some (0 : Int)

def E10_0 (K : (((Bool × Int) × List Int × Int) → Option Int)) (v : List Int × Int) : Option Int :=
  bif (decide (((v.1).length : Int) < (1 : Int))) then
    some (42 : Int)
  else
    bif (decide (((v.1).length : Int) > (50 : Int))) then
      some (42 : Int)
    else
      bif (decide (v.2 ≥ (0 : Int))) then
        K (((decide (v.2 ≤ (1000 : Int))), (0 : Int)), v)
      else
        K ((false, (0 : Int)), v)

def K10_0 : Nat → (((Bool × Int) × List Int × Int) → Option Int)
  | 0 => (fun _ => none)
  | n + 1 => (B10_0_5 (K10_0 n))
def fuel10_0 (v : List Int × Int) : Nat := 1000
def F10_0 (v : List Int × Int) : Option Int := E10_0 (K10_0 (fuel10_0 v)) v
noncomputable def k10_0 : List (Known Try.prog E) := []
def s10_0_5 : List (Nat × Pat) := [(1, (.ptr 0 0 29 [(.ros 3), .keep])), (3, .keep), (4, .keep)]
noncomputable def L10_0 (n id : Nat) (st : St G) : Option Int := match Nat.beq id 5 with | true => cutK Try.prog E s10_0_5 [] c10_0_5.dec (K10_0 n) st | false => none
set_option maxRecDepth 100000 in
theorem e10_0 (n : Nat) (v : List Int × Int) : ev Try.prog E (oracle k10_0) Try.f10.ntmps (fun x => mem x [5]) (L10_0 n) (finF Try.prog E Try.f10.results.toList [[]] w10_0.alts) 4000 [.code (Try.f10.body.getD .skip)] (argSt (v10_0.enc v)) = E10_0 (K10_0 n) v := by kernel_rfl
set_option maxRecDepth 100000 in
theorem b10_0_5 (n : Nat) (v : (Bool × Int) × List Int × Int) : evCut Try.prog E (oracle k10_0) false 10 Try.f10.ntmps (fun x => mem x [5]) (L10_0 n) (finF Try.prog E Try.f10.results.toList [[]] w10_0.alts) 4000 (todoAt (Try.f10.body.getD .skip) 5) (cutSt s10_0_5 (c10_0_5.enc v)) = B10_0_5 (K10_0 n) v := by kernel_rfl
theorem ok10_0 : FnOk Try.prog E 10 v10_0.enc F10_0 w10_0.enc :=
  fn_known (fn := Try.f10) (c := (Try.f10.body.getD .skip)) Try.func10 (by kernel_rfl) rfl envOk (oracle_ok k10_0) mixed v10_0 F10_0 w10_0 [] [[]] (by kernel_rfl) [5] 4000 L10_0 (by kernel_rfl)
    (List.forall_mem_cons.2 ⟨⟨_, [], s10_0_5, c10_0_5.dec, c10_0_5.enc, fun n => (K10_0 n), c10_0_5.ok, fun _ _ => rfl, fun _ => rfl, by kernel_rfl, fun n v _ h => (b10_0_5 n v).trans h⟩, fun _ h => (nomatch h)⟩) (fun v _ h => ⟨fuel10_0 v, (e10_0 _ v).trans h⟩) (fun _ => by kernel_rfl) (fun _ => by kernel_rfl) (fun _ _ => by kernel_rfl)
/- slices.Index[[]int,int] -/
abbrev A21_0 : Type := List Int × Int
abbrev R21_0 : Type := Int
def v21_0 : Pk G (List Int × Int) := (Pk.fst (pk (Sh.cons (Sh.ros 3) (Sh.fst (Sh.cons (Sh.int .i64) Sh.nil))) Sh.hnil))
def w21_0 : Wk G Int := (Wk.one [.keep] (Pk.fst (pk (Sh.fst (Sh.cons (Sh.int .i64) Sh.nil)) Sh.hnil)))
def c21_0_2 : Pk G (List Int × Int × Int × Int) := (Pk.fst (pk (Sh.cons (Sh.ros 3) (Sh.cons (Sh.int .i64) (Sh.cons (Sh.int .i64) (Sh.fst (Sh.cons (Sh.int .i64) Sh.nil))))) Sh.hnil))
def B21_0_2 (K : ((List Int × Int × Int × Int) → Option Int)) (v : List Int × Int × Int × Int) : Option Int :=
  bif (decide (v.2.2.2 < v.2.2.1)) then
    (rdx v.1 v.2.2.2).bind fun (x130 : Int) =>
    bif (v.2.1 == x130) then
      some (v.2.2.2)
    else
      let x131 : Int := (IntKind.wrap .i64 (v.2.2.2 + (1 : Int)))
      K (v.1, (v.2.1, (v.2.2.1, x131)))
  else
    some (-1 : Int)

def E21_0 (K : ((List Int × Int × Int × Int) → Option Int)) (v : List Int × Int) : Option Int :=
  K (v.1, (v.2, (((v.1).length : Int), (0 : Int))))

def K21_0 : Nat → ((List Int × Int × Int × Int) → Option Int)
  | 0 => (fun _ => none)
  | n + 1 => (B21_0_2 (K21_0 n))
def fuel21_0 (v : List Int × Int) : Nat := 1000
def F21_0 (v : List Int × Int) : Option Int := E21_0 (K21_0 (fuel21_0 v)) v
noncomputable def k21_0 : List (Known Try.prog E) := []
def s21_0_2 : List (Nat × Pat) := [(0, (.ros 3)), (1, .keep), (7, .keep), (8, .keep)]
noncomputable def L21_0 (n id : Nat) (st : St G) : Option Int := match Nat.beq id 2 with | true => cutK Try.prog E s21_0_2 [] c21_0_2.dec (K21_0 n) st | false => none
set_option maxRecDepth 100000 in
theorem e21_0 (n : Nat) (v : List Int × Int) : ev Try.prog E (oracle k21_0) Try.f21.ntmps (fun x => mem x [2]) (L21_0 n) (finF Try.prog E Try.f21.results.toList [[]] w21_0.alts) 4000 [.code (Try.f21.body.getD .skip)] (argSt (v21_0.enc v)) = E21_0 (K21_0 n) v := by kernel_rfl
set_option maxRecDepth 100000 in
theorem b21_0_2 (n : Nat) (v : List Int × Int × Int × Int) : evCut Try.prog E (oracle k21_0) false 21 Try.f21.ntmps (fun x => mem x [2]) (L21_0 n) (finF Try.prog E Try.f21.results.toList [[]] w21_0.alts) 4000 (todoAt (Try.f21.body.getD .skip) 2) (cutSt s21_0_2 (c21_0_2.enc v)) = B21_0_2 (K21_0 n) v := by kernel_rfl
theorem ok21_0 : FnOk Try.prog E 21 v21_0.enc F21_0 w21_0.enc :=
  fn_known (fn := Try.f21) (c := (Try.f21.body.getD .skip)) Try.func21 (by kernel_rfl) rfl envOk (oracle_ok k21_0) mixed v21_0 F21_0 w21_0 [] [[]] (by kernel_rfl) [2] 4000 L21_0 (by kernel_rfl)
    (List.forall_mem_cons.2 ⟨⟨_, [], s21_0_2, c21_0_2.dec, c21_0_2.enc, fun n => (K21_0 n), c21_0_2.ok, fun _ _ => rfl, fun _ => rfl, by kernel_rfl, fun n v _ h => (b21_0_2 n v).trans h⟩, fun _ h => (nomatch h)⟩) (fun v _ h => ⟨fuel21_0 v, (e21_0 _ v).trans h⟩) (fun _ => by kernel_rfl) (fun _ => by kernel_rfl) (fun _ _ => by kernel_rfl)
/- (chicane/points.Scale).score -/
abbrev A22_0 : Type := (List Int × Int) × (List Int × Int) × Int × Int
abbrev R22_0 : Type := Int
def v22_0 : Pk G ((List Int × Int) × (List Int × Int) × Int × Int) := (Pk.fst (pk (Sh.cons (Sh.agg (Sh.cons (Sh.ros 3) (Sh.fst (Sh.cons (Sh.int .i64) Sh.nil)))) (Sh.cons (Sh.agg (Sh.cons (Sh.ros 3) (Sh.fst (Sh.cons (Sh.int .i64) Sh.nil)))) (Sh.cons (Sh.int .i64) (Sh.fst (Sh.cons (Sh.int .i64) Sh.nil))))) Sh.hnil))
def w22_0 : Wk G Int := (Wk.one [.keep] (Pk.fst (pk (Sh.fst (Sh.cons (Sh.int .i64) Sh.nil)) Sh.hnil)))
def F22_0 (v : (List Int × Int) × (List Int × Int) × Int × Int) : Option Int :=
  bif (decide (v.2.2.2 < ((v.1.1).length : Int))) then
    (rdx v.1.1 v.2.2.2).bind fun (x140 : Int) =>
    bif (v.2.1.2 == v.2.2.1) then
      bif (decide (v.2.2.1 ≥ (0 : Int))) then
        let x141 : Int := (IntKind.wrap .i64 (x140 + v.1.2))
        some (x141)
      else
        some (x140)
    else
      some (x140)
  else
    bif (v.2.1.2 == v.2.2.1) then
      bif (decide (v.2.2.1 ≥ (0 : Int))) then
        let x142 : Int := (IntKind.wrap .i64 ((0 : Int) + v.1.2))
        some (x142)
      else
        some (0 : Int)
    else
      some (0 : Int)

noncomputable def k22_0 : List (Known Try.prog E) := []
noncomputable def L22_0 (n id : Nat) (st : St G) : Option Int := none
set_option maxRecDepth 100000 in
theorem e22_0 (n : Nat) (v : (List Int × Int) × (List Int × Int) × Int × Int) : ev Try.prog E (oracle k22_0) Try.f22.ntmps (fun x => mem x []) (L22_0 n) (finF Try.prog E Try.f22.results.toList [[]] w22_0.alts) 4000 [.code (Try.f22.body.getD .skip)] (argSt (v22_0.enc v)) = F22_0 v := by kernel_rfl
theorem ok22_0 : FnOk Try.prog E 22 v22_0.enc F22_0 w22_0.enc :=
  fn_known (fn := Try.f22) (c := (Try.f22.body.getD .skip)) Try.func22 (by kernel_rfl) rfl envOk (oracle_ok k22_0) mixed v22_0 F22_0 w22_0 [] [[]] (by kernel_rfl) [] 4000 L22_0 (by kernel_rfl)
    (fun _ h => nomatch h) (fun v _ h => ⟨0, (e22_0 _ v).trans h⟩) (fun _ => by kernel_rfl) (fun _ => by kernel_rfl) (fun _ _ => by kernel_rfl)
/- chicane/points.Score -/
abbrev A11_0 : Type := (List Int × Int) × (List Int × Int) × Int
abbrev R11_0 : Type := Int
def v11_0 : Pk G ((List Int × Int) × (List Int × Int) × Int) := (Pk.fst (pk (Sh.cons (Sh.agg (Sh.cons (Sh.ros 3) (Sh.fst (Sh.cons (Sh.int .i64) Sh.nil)))) (Sh.cons (Sh.agg (Sh.cons (Sh.ros 3) (Sh.fst (Sh.cons (Sh.int .i64) Sh.nil)))) (Sh.fst (Sh.cons (Sh.int .i64) Sh.nil)))) Sh.hnil))
def w11_0 : Wk G Int := (Wk.one [.keep] (Pk.fst (pk (Sh.fst (Sh.cons (Sh.int .i64) Sh.nil)) Sh.hnil)))
def F11_0 (v : (List Int × Int) × (List Int × Int) × Int) : Option Int :=
  (F21_0 (v.2.1.1, v.2.2)).bind fun r147 =>
  bif (decide (r147 < (0 : Int))) then
    some (0 : Int)
  else
    (F9_0 v.1).bind fun r148 =>
    bif (r148 != (0 : Int)) then
      some (0 : Int)
    else
      (F22_0 (v.1, (v.2.1, (v.2.2, r147)))).bind fun r149 =>
      some (r149)

noncomputable def k11_0 : List (Known Try.prog E) := [Known.of envOk [7, 1] [(.ros 3), .keep] v21_0 F21_0 w21_0 ok21_0, Known.of envOk [9] [(.agg [(.ros 3), .keep])] v9_0 F9_0 w9_0 ok9_0, Known.of envOk [9, 9, 1, 1] [(.agg [(.ros 3), .keep]), (.agg [(.ros 3), .keep]), .keep, .keep] v22_0 F22_0 w22_0 ok22_0]
noncomputable def L11_0 (n id : Nat) (st : St G) : Option Int := none
set_option maxRecDepth 100000 in
theorem e11_0 (n : Nat) (v : (List Int × Int) × (List Int × Int) × Int) : ev Try.prog E (oracle k11_0) Try.f11.ntmps (fun x => mem x []) (L11_0 n) (finF Try.prog E Try.f11.results.toList [[]] w11_0.alts) 4000 [.code (Try.f11.body.getD .skip)] (argSt (v11_0.enc v)) = F11_0 v := by kernel_rfl
theorem ok11_0 : FnOk Try.prog E 11 v11_0.enc F11_0 w11_0.enc :=
  fn_known (fn := Try.f11) (c := (Try.f11.body.getD .skip)) Try.func11 (by kernel_rfl) rfl envOk (oracle_ok k11_0) mixed v11_0 F11_0 w11_0 [] [[]] (by kernel_rfl) [] 4000 L11_0 (by kernel_rfl)
    (fun _ h => nomatch h) (fun v _ h => ⟨0, (e11_0 _ v).trans h⟩) (fun _ => by kernel_rfl) (fun _ => by kernel_rfl) (fun _ _ => by kernel_rfl)
/- chicane/chicaneref48.place -/
abbrev A23_0 : Type := (List Int × Int) × Int
abbrev R23_0 : Type := Int
def v23_0 : Pk G ((List Int × Int) × Int) := (Pk.fst (pk (Sh.cons (Sh.agg (Sh.cons (Sh.ros 3) (Sh.fst (Sh.cons (Sh.int .i64) Sh.nil)))) (Sh.fst (Sh.cons (Sh.int .i64) Sh.nil))) Sh.hnil))
def w23_0 : Wk G Int := (Wk.one [.keep] (Pk.fst (pk (Sh.fst (Sh.cons (Sh.int .i64) Sh.nil)) Sh.hnil)))
def c23_0_2 : Pk G ((Int × Int) × List Int × Int) := (pk (Sh.cons (Sh.int .i64) (Sh.snd (Sh.cons (Sh.ptr 0 0) (Sh.fst (Sh.cons (Sh.int .i64) Sh.nil))))) (Sh.fst (Sh.hfix 0 38 (Sh.cons (Sh.ros 3) (Sh.fst (Sh.cons (Sh.int .i64) Sh.nil))) Sh.hnil)))
def B23_0_2 (K : (((Int × Int) × List Int × Int) → Option Int)) (v : (Int × Int) × List Int × Int) : Option Int :=
  bif (decide (v.1.2 < ((v.2.1).length : Int))) then
    (rdx v.2.1 v.1.2).bind fun (x159 : Int) =>
    bif (x159 == v.1.1) then
      some (v.1.2)
    else
      let x160 : Int := (IntKind.wrap .i64 (v.1.2 + (1 : Int)))
      K ((v.1.1, x160), v.2)
  else
    some (-1 : Int)

def E23_0 (K : (((Int × Int) × List Int × Int) → Option Int)) (v : (List Int × Int) × Int) : Option Int :=
  K ((v.2, (0 : Int)), v.1)

def K23_0 : Nat → (((Int × Int) × List Int × Int) → Option Int)
  | 0 => (fun _ => none)
  | n + 1 => (B23_0_2 (K23_0 n))
def fuel23_0 (v : (List Int × Int) × Int) : Nat := 1000
def F23_0 (v : (List Int × Int) × Int) : Option Int := E23_0 (K23_0 (fuel23_0 v)) v
noncomputable def k23_0 : List (Known Try.prog E) := []
def s23_0_2 : List (Nat × Pat) := [(1, .keep), (2, (.ptr 0 0 38 [(.ros 3), .keep])), (5, .keep)]
noncomputable def L23_0 (n id : Nat) (st : St G) : Option Int := match Nat.beq id 2 with | true => cutK Try.prog E s23_0_2 [] c23_0_2.dec (K23_0 n) st | false => none
set_option maxRecDepth 100000 in
theorem e23_0 (n : Nat) (v : (List Int × Int) × Int) : ev Try.prog E (oracle k23_0) Try.f23.ntmps (fun x => mem x [2]) (L23_0 n) (finF Try.prog E Try.f23.results.toList [[]] w23_0.alts) 4000 [.code (Try.f23.body.getD .skip)] (argSt (v23_0.enc v)) = E23_0 (K23_0 n) v := by kernel_rfl
set_option maxRecDepth 100000 in
theorem b23_0_2 (n : Nat) (v : (Int × Int) × List Int × Int) : evCut Try.prog E (oracle k23_0) false 23 Try.f23.ntmps (fun x => mem x [2]) (L23_0 n) (finF Try.prog E Try.f23.results.toList [[]] w23_0.alts) 4000 (todoAt (Try.f23.body.getD .skip) 2) (cutSt s23_0_2 (c23_0_2.enc v)) = B23_0_2 (K23_0 n) v := by kernel_rfl
theorem ok23_0 : FnOk Try.prog E 23 v23_0.enc F23_0 w23_0.enc :=
  fn_known (fn := Try.f23) (c := (Try.f23.body.getD .skip)) Try.func23 (by kernel_rfl) rfl envOk (oracle_ok k23_0) mixed v23_0 F23_0 w23_0 [] [[]] (by kernel_rfl) [2] 4000 L23_0 (by kernel_rfl)
    (List.forall_mem_cons.2 ⟨⟨_, [], s23_0_2, c23_0_2.dec, c23_0_2.enc, fun n => (K23_0 n), c23_0_2.ok, fun _ _ => rfl, fun _ => rfl, by kernel_rfl, fun n v _ h => (b23_0_2 n v).trans h⟩, fun _ h => (nomatch h)⟩) (fun v _ h => ⟨fuel23_0 v, (e23_0 _ v).trans h⟩) (fun _ => by kernel_rfl) (fun _ => by kernel_rfl) (fun _ _ => by kernel_rfl)
/- chicane/chicaneref48.Score -/
abbrev A12_0 : Type := (List Int × Int) × (List Int × Int) × Int
abbrev R12_0 : Type := Int
def v12_0 : Pk G ((List Int × Int) × (List Int × Int) × Int) := (Pk.fst (pk (Sh.cons (Sh.agg (Sh.cons (Sh.ros 3) (Sh.fst (Sh.cons (Sh.int .i64) Sh.nil)))) (Sh.cons (Sh.agg (Sh.cons (Sh.ros 3) (Sh.fst (Sh.cons (Sh.int .i64) Sh.nil)))) (Sh.fst (Sh.cons (Sh.int .i64) Sh.nil)))) Sh.hnil))
def w12_0 : Wk G Int := (Wk.one [.keep] (Pk.fst (pk (Sh.fst (Sh.cons (Sh.int .i64) Sh.nil)) Sh.hnil)))
def F12_0 (v : (List Int × Int) × (List Int × Int) × Int) : Option Int :=
  (F23_0 v.2).bind fun r171 =>
  bif (decide (r171 < (0 : Int))) then
    some (0 : Int)
  else
    (F10_0 v.1).bind fun r172 =>
    bif (r172 != (0 : Int)) then
      some (0 : Int)
    else
      bif (decide (r171 < ((v.1.1).length : Int))) then
        (rdx v.1.1 r171).bind fun (x173 : Int) =>
        bif (decide (v.2.1.2 ≥ (0 : Int))) then
          bif (v.2.1.2 == v.2.2) then
            let x174 : Int := (IntKind.wrap .i64 (x173 + v.1.2))
            some (x174)
          else
            some (x173)
        else
          some (x173)
      else
        bif (decide (v.2.1.2 ≥ (0 : Int))) then
          bif (v.2.1.2 == v.2.2) then
            let x175 : Int := (IntKind.wrap .i64 ((0 : Int) + v.1.2))
            some (x175)
          else
            some (0 : Int)
        else
          some (0 : Int)

noncomputable def k12_0 : List (Known Try.prog E) := [Known.of envOk [9, 1] [(.agg [(.ros 3), .keep]), .keep] v23_0 F23_0 w23_0 ok23_0, Known.of envOk [9] [(.agg [(.ros 3), .keep])] v10_0 F10_0 w10_0 ok10_0]
noncomputable def L12_0 (n id : Nat) (st : St G) : Option Int := none
set_option maxRecDepth 100000 in
theorem e12_0 (n : Nat) (v : (List Int × Int) × (List Int × Int) × Int) : ev Try.prog E (oracle k12_0) Try.f12.ntmps (fun x => mem x []) (L12_0 n) (finF Try.prog E Try.f12.results.toList [[]] w12_0.alts) 4000 [.code (Try.f12.body.getD .skip)] (argSt (v12_0.enc v)) = F12_0 v := by kernel_rfl
theorem ok12_0 : FnOk Try.prog E 12 v12_0.enc F12_0 w12_0.enc :=
  fn_known (fn := Try.f12) (c := (Try.f12.body.getD .skip)) Try.func12 (by kernel_rfl) rfl envOk (oracle_ok k12_0) mixed v12_0 F12_0 w12_0 [] [[]] (by kernel_rfl) [] 4000 L12_0 (by kernel_rfl)
    (fun _ h => nomatch h) (fun v _ h => ⟨0, (e12_0 _ v).trans h⟩) (fun _ => by kernel_rfl) (fun _ => by kernel_rfl) (fun _ _ => by kernel_rfl)
/- chicane/points.longest -/
abbrev A24_0 : Type := List (List Int × Int)
abbrev R24_0 : Type := Int
def v24_0 : Pk G (List (List Int × Int)) := (Pk.fst (pk (Sh.fst (Sh.cons (Sh.ros 26) Sh.nil)) Sh.hnil))
def w24_0 : Wk G Int := (Wk.one [.keep] (Pk.fst (pk (Sh.fst (Sh.cons (Sh.int .i64) Sh.nil)) Sh.hnil)))
def c24_0_3 : Pk G (Int × (List (List Int × Int)) × Int × Int) := (Pk.fst (pk (Sh.cons (Sh.int .i64) (Sh.cons (Sh.ros 26) (Sh.cons (Sh.int .i64) (Sh.fst (Sh.cons (Sh.int .i64) Sh.nil))))) Sh.hnil))
def B24_0_3 (K : ((Int × (List (List Int × Int)) × Int × Int) → Option Int)) (v : Int × (List (List Int × Int)) × Int × Int) : Option Int :=
  bif (decide (v.2.2.2 < v.2.2.1)) then
    (rdx v.2.1 v.2.2.2).bind fun (x185 : List Int × Int) =>
    let x186 : Int := (if ((x185.1).length : Int) > v.1 then ((x185.1).length : Int) else v.1)
    let x187 : Int := (IntKind.wrap .i64 (v.2.2.2 + (1 : Int)))
    K (x186, (v.2.1, (v.2.2.1, x187)))
  else
    some (v.1)

def E24_0 (K : ((Int × (List (List Int × Int)) × Int × Int) → Option Int)) (v : List (List Int × Int)) : Option Int :=
  K ((0 : Int), (v, (((v).length : Int), (0 : Int))))

def K24_0 : Nat → ((Int × (List (List Int × Int)) × Int × Int) → Option Int)
  | 0 => (fun _ => none)
  | n + 1 => (B24_0_3 (K24_0 n))
def fuel24_0 (v : List (List Int × Int)) : Nat := 1000
def F24_0 (v : List (List Int × Int)) : Option Int := E24_0 (K24_0 (fuel24_0 v)) v
noncomputable def k24_0 : List (Known Try.prog E) := []
def s24_0_3 : List (Nat × Pat) := [(3, .keep), (6, (.ros 26)), (7, .keep), (8, .keep)]
noncomputable def L24_0 (n id : Nat) (st : St G) : Option Int := match Nat.beq id 3 with | true => cutK Try.prog E s24_0_3 [] c24_0_3.dec (K24_0 n) st | false => none
set_option maxRecDepth 100000 in
theorem e24_0 (n : Nat) (v : List (List Int × Int)) : ev Try.prog E (oracle k24_0) Try.f24.ntmps (fun x => mem x [3]) (L24_0 n) (finF Try.prog E Try.f24.results.toList [[]] w24_0.alts) 4000 [.code (Try.f24.body.getD .skip)] (argSt (v24_0.enc v)) = E24_0 (K24_0 n) v := by kernel_rfl
set_option maxRecDepth 100000 in
theorem b24_0_3 (n : Nat) (v : Int × (List (List Int × Int)) × Int × Int) : evCut Try.prog E (oracle k24_0) false 24 Try.f24.ntmps (fun x => mem x [3]) (L24_0 n) (finF Try.prog E Try.f24.results.toList [[]] w24_0.alts) 4000 (todoAt (Try.f24.body.getD .skip) 3) (cutSt s24_0_3 (c24_0_3.enc v)) = B24_0_3 (K24_0 n) v := by kernel_rfl
theorem ok24_0 : FnOk Try.prog E 24 v24_0.enc F24_0 w24_0.enc :=
  fn_known (fn := Try.f24) (c := (Try.f24.body.getD .skip)) Try.func24 (by kernel_rfl) rfl envOk (oracle_ok k24_0) mixed v24_0 F24_0 w24_0 [] [[]] (by kernel_rfl) [3] 4000 L24_0 (by kernel_rfl)
    (List.forall_mem_cons.2 ⟨⟨_, [], s24_0_3, c24_0_3.dec, c24_0_3.enc, fun n => (K24_0 n), c24_0_3.ok, fun _ _ => rfl, fun _ => rfl, by kernel_rfl, fun n v _ h => (b24_0_3 n v).trans h⟩, fun _ h => (nomatch h)⟩) (fun v _ h => ⟨fuel24_0 v, (e24_0 _ v).trans h⟩) (fun _ => by kernel_rfl) (fun _ => by kernel_rfl) (fun _ _ => by kernel_rfl)
/- slices.SortFunc[[]chicane/points.Row,chicane/points.Row] -/
abbrev A25_0 : Type := List (Int × Int × List Int)
abbrev R25_0 : Type := List (Int × Int × List Int)
def v25_0 : Pk G (List (Int × Int × List Int)) := (Pk.snd (pk (Sh.snd (Sh.cons (Sh.osl 0) (Sh.snd (Sh.cons (Sh.snd (Sh.fn (.func 26) Sh.nil Sh.nil)) Sh.nil)))) (Sh.fst (Sh.hrow 0 48 Sh.hnil))))
def w25_0 : Wk G (List (Int × Int × List Int)) := (Wk.one [] (Pk.snd (pk Sh.nil (Sh.fst (Sh.hrow 0 48 Sh.hnil)))))
def F25_0 (v : List (Int × Int × List Int)) : Option (List (Int × Int × List Int)) := sortRows v
theorem ok25_0 : FnOk Try.prog E 25 v25_0.enc F25_0 w25_0.enc := sortRows_ok
/- chicane/points.Table -/
abbrev A14_0 : Type := (List Int × Int) × List (List Int × Int)
abbrev R14_0 : Type := List (Int × Int × List Int)
def v14_0 : Pk G ((List Int × Int) × List (List Int × Int)) := (Pk.fst (pk (Sh.cons (Sh.agg (Sh.cons (Sh.ros 3) (Sh.fst (Sh.cons (Sh.int .i64) Sh.nil)))) (Sh.fst (Sh.cons (Sh.ros 26) Sh.nil))) Sh.hnil))
def w14_0 : Wk G (List (Int × Int × List Int)) := (Wk.one [(.own 0 48)] (Pk.snd (pk (Sh.snd (Sh.cons (Sh.osl 0) Sh.nil)) (Sh.fst (Sh.hrow 0 48 Sh.hnil)))))
def c14_0_5 : Pk G ((Int × Bool × (List (List Int × Int)) × Int × Int) × List Int × (List (Int × (Int × Int × List Int))) × List Int × Int) := (pk (Sh.snd (Sh.cons (Sh.ptr 0 0) (Sh.snd (Sh.cons (Sh.mapv 1) (Sh.snd (Sh.cons (Sh.osl 2) (Sh.cons (Sh.int .i64) (Sh.cons Sh.bool (Sh.cons (Sh.ros 26) (Sh.cons (Sh.int .i64) (Sh.fst (Sh.cons (Sh.int .i64) Sh.nil)))))))))))) (Sh.hrow 2 3 (Sh.hmrow 1 48 (Sh.fst (Sh.hfix 0 24 (Sh.cons (Sh.ros 3) (Sh.fst (Sh.cons (Sh.int .i64) Sh.nil))) Sh.hnil)))))
def c14_0_9 : Pk G ((Int × Bool × (List (List Int × Int)) × Int × Int × List Int × Int × Int) × List Int × (List Int × Int) × List Int × (List (Int × (Int × Int × List Int))) × List Int × Int) := (pk (Sh.snd (Sh.cons (Sh.ptr 0 0) (Sh.snd (Sh.cons (Sh.mapv 1) (Sh.snd (Sh.cons (Sh.osl 2) (Sh.cons (Sh.int .i64) (Sh.cons Sh.bool (Sh.snd (Sh.cons (Sh.ptr 3 0) (Sh.snd (Sh.cons (Sh.mapv 4) (Sh.cons (Sh.ros 26) (Sh.cons (Sh.int .i64) (Sh.cons (Sh.int .i64) (Sh.cons (Sh.ros 3) (Sh.cons (Sh.int .i64) (Sh.fst (Sh.cons (Sh.int .i64) Sh.nil))))))))))))))))))) (Sh.hset 4 (Sh.hfix 3 26 (Sh.cons (Sh.ros 3) (Sh.fst (Sh.cons (Sh.int .i64) Sh.nil))) (Sh.hrow 2 3 (Sh.hmrow 1 48 (Sh.fst (Sh.hfix 0 24 (Sh.cons (Sh.ros 3) (Sh.fst (Sh.cons (Sh.int .i64) Sh.nil))) Sh.hnil)))))))
def c14_0_25 : Pk G (((List (Int × (Int × Int × List Int))) × Int × Int) × List Int × List (Int × Int × List Int)) := (pk (Sh.cons (Sh.romap 48) (Sh.snd (Sh.cons (Sh.osl 0) (Sh.snd (Sh.cons (Sh.osl 1) (Sh.cons (Sh.int .i64) (Sh.fst (Sh.cons (Sh.int .i64) Sh.nil)))))))) (Sh.hrow 1 3 (Sh.fst (Sh.hrow 0 48 Sh.hnil))))
def B14_0_5 (K : (((Int × Bool × (List (List Int × Int)) × Int × Int) × List Int × (List (Int × (Int × Int × List Int))) × List Int × Int) → Option (List (Int × Int × List Int))) × (((Int × Bool × (List (List Int × Int)) × Int × Int × List Int × Int × Int) × List Int × (List Int × Int) × List Int × (List (Int × (Int × Int × List Int))) × List Int × Int) → Option (List (Int × Int × List Int))) × ((((List (Int × (Int × Int × List Int))) × Int × Int) × List Int × List (Int × Int × List Int)) → Option (List (Int × Int × List Int)))) (v : (Int × Bool × (List (List Int × Int)) × Int × Int) × List Int × (List (Int × (Int × Int × List Int))) × List Int × Int) : Option (List (Int × Int × List Int)) :=
  bif (decide (v.1.2.2.2.2 < v.1.2.2.2.1)) then
    (rdx v.1.2.2.1 v.1.2.2.2.2).bind fun (x320 : List Int × Int) =>
    K.2.1 ((v.1.1, (v.1.2.1, (v.1.2.2.1, (v.1.2.2.2.1, (v.1.2.2.2.2, (x320.1, (((x320.1).length : Int), (0 : Int)))))))), (([] : List Int), (x320, v.2)))
  else
    K.2.2 ((v.2.2.1, (((v.2.1).length : Int), (0 : Int))), (v.2.1, ([] : List (Int × Int × List Int))))

def B14_0_9 (K : (((Int × Bool × (List (List Int × Int)) × Int × Int) × List Int × (List (Int × (Int × Int × List Int))) × List Int × Int) → Option (List (Int × Int × List Int))) × (((Int × Bool × (List (List Int × Int)) × Int × Int × List Int × Int × Int) × List Int × (List Int × Int) × List Int × (List (Int × (Int × Int × List Int))) × List Int × Int) → Option (List (Int × Int × List Int))) × ((((List (Int × (Int × Int × List Int))) × Int × Int) × List Int × List (Int × Int × List Int)) → Option (List (Int × Int × List Int)))) (v : (Int × Bool × (List (List Int × Int)) × Int × Int × List Int × Int × Int) × List Int × (List Int × Int) × List Int × (List (Int × (Int × Int × List Int))) × List Int × Int) : Option (List (Int × Int × List Int)) :=
  bif (decide (v.1.2.2.2.2.2.2.2 < v.1.2.2.2.2.2.2.1)) then
    (rdx v.1.2.2.2.2.2.1 v.1.2.2.2.2.2.2.2).bind fun (x321 : Int) =>
    bif (hasI x321 v.2.1) then
      let x322 : Int := (IntKind.wrap .i64 (v.1.2.2.2.2.2.2.2 + (1 : Int)))
      K.2.1 ((v.1.1, (v.1.2.1, (v.1.2.2.1, (v.1.2.2.2.1, (v.1.2.2.2.2.1, (v.1.2.2.2.2.2.1, (v.1.2.2.2.2.2.2.1, x322))))))), v.2)
    else
      let x323 : List Int := (addI x321 v.2.1)
      match (keyS x321 v.2.2.2.2.1) with
      | .inl q324 =>
        (idx v.1.2.2.2.2.2.2.2 (q324.2.2.2).length).bind fun (x326 : Nat) =>
        ((q324.2.2.2)[x326]?).bind fun (x327 : Int) =>
        let x328 : Int := (IntKind.wrap .i64 (x327 + (1 : Int)))
        (idx v.1.2.2.2.2.2.2.2 (q324.2.2.2).length).bind fun (x329 : Nat) =>
        ((q324.2.2.2)[x329]?).bind fun _ =>
        let x331 : List Int := (q324.2.2.2).set x329 (x328)
        bif v.1.2.1 then
          (F22_0 (v.2.2.2.2.2, (v.2.2.1, (x321, v.1.2.2.2.2.2.2.2)))).bind fun r332 =>
          let x333 : Int := (IntKind.wrap .i64 (q324.2.2.1 + r332))
          let x334 : Int := (IntKind.wrap .i64 (v.1.2.2.2.2.2.2.2 + (1 : Int)))
          K.2.1 ((v.1.1, (v.1.2.1, (v.1.2.2.1, (v.1.2.2.2.1, (v.1.2.2.2.2.1, (v.1.2.2.2.2.2.1, (v.1.2.2.2.2.2.2.1, x334))))))), (x323, (v.2.2.1, (v.2.2.2.1, ((setVal v.2.2.2.2.1 q324.1 (q324.2.1, (x333, x331))), v.2.2.2.2.2)))))
        else
          let x335 : Int := (IntKind.wrap .i64 (v.1.2.2.2.2.2.2.2 + (1 : Int)))
          K.2.1 ((v.1.1, (v.1.2.1, (v.1.2.2.1, (v.1.2.2.2.1, (v.1.2.2.2.2.1, (v.1.2.2.2.2.2.1, (v.1.2.2.2.2.2.2.1, x335))))))), (x323, (v.2.2.1, (v.2.2.2.1, ((setVal v.2.2.2.2.1 q324.1 (q324.2.1, (q324.2.2.1, x331))), v.2.2.2.2.2)))))
      | .inr u325 =>
        (chk (decide (0 ≤ v.1.1 ∧ v.1.1 ≤ v.1.1 ∧ v.1.1 * 8 ≤ 140737488355328 ∧ v.1.1 ≤ 9223372036854775807))).bind fun _ =>
        (noKey x321 v.2.2.2.2.1).bind fun _ =>
        (chk (decide (((v.2.2.2.1).length + (([x321] : List Int)).length) * 8 ≤ 140737488355328))).bind fun _ =>
        let x336 : List Int := (v.2.2.2.1 ++ ([x321] : List Int))
        (idx v.1.2.2.2.2.2.2.2 ((List.replicate (v.1.1).toNat ((0 : Int) : Int))).length).bind fun (x337 : Nat) =>
        (((List.replicate (v.1.1).toNat ((0 : Int) : Int)))[x337]?).bind fun (x338 : Int) =>
        let x339 : Int := (IntKind.wrap .i64 (x338 + (1 : Int)))
        (idx v.1.2.2.2.2.2.2.2 ((List.replicate (v.1.1).toNat ((0 : Int) : Int))).length).bind fun (x340 : Nat) =>
        (((List.replicate (v.1.1).toNat ((0 : Int) : Int)))[x340]?).bind fun _ =>
        let x342 : List Int := ((List.replicate (v.1.1).toNat ((0 : Int) : Int))).set x340 (x339)
        bif v.1.2.1 then
          (F22_0 (v.2.2.2.2.2, (v.2.2.1, (x321, v.1.2.2.2.2.2.2.2)))).bind fun r343 =>
          let x344 : Int := (IntKind.wrap .i64 ((0 : Int) + r343))
          let x345 : Int := (IntKind.wrap .i64 (v.1.2.2.2.2.2.2.2 + (1 : Int)))
          K.2.1 ((v.1.1, (v.1.2.1, (v.1.2.2.1, (v.1.2.2.2.1, (v.1.2.2.2.2.1, (v.1.2.2.2.2.2.1, (v.1.2.2.2.2.2.2.1, x345))))))), (x323, (v.2.2.1, (x336, ((setVal (v.2.2.2.2.1 ++ [(x321, (x321, ((0 : Int), (List.replicate (v.1.1).toNat ((0 : Int) : Int)))))]) (v.2.2.2.2.1).length (x321, (x344, x342))), v.2.2.2.2.2)))))
        else
          let x346 : Int := (IntKind.wrap .i64 (v.1.2.2.2.2.2.2.2 + (1 : Int)))
          K.2.1 ((v.1.1, (v.1.2.1, (v.1.2.2.1, (v.1.2.2.2.1, (v.1.2.2.2.2.1, (v.1.2.2.2.2.2.1, (v.1.2.2.2.2.2.2.1, x346))))))), (x323, (v.2.2.1, (x336, ((setVal (v.2.2.2.2.1 ++ [(x321, (x321, ((0 : Int), (List.replicate (v.1.1).toNat ((0 : Int) : Int)))))]) (v.2.2.2.2.1).length (x321, ((0 : Int), x342))), v.2.2.2.2.2)))))
  else
    let x347 : Int := (IntKind.wrap .i64 (v.1.2.2.2.2.1 + (1 : Int)))
    K.1 ((v.1.1, (v.1.2.1, (v.1.2.2.1, (v.1.2.2.2.1, x347)))), v.2.2.2)

def B14_0_25 (K : (((Int × Bool × (List (List Int × Int)) × Int × Int) × List Int × (List (Int × (Int × Int × List Int))) × List Int × Int) → Option (List (Int × Int × List Int))) × (((Int × Bool × (List (List Int × Int)) × Int × Int × List Int × Int × Int) × List Int × (List Int × Int) × List Int × (List (Int × (Int × Int × List Int))) × List Int × Int) → Option (List (Int × Int × List Int))) × ((((List (Int × (Int × Int × List Int))) × Int × Int) × List Int × List (Int × Int × List Int)) → Option (List (Int × Int × List Int)))) (v : ((List (Int × (Int × Int × List Int))) × Int × Int) × List Int × List (Int × Int × List Int)) : Option (List (Int × Int × List Int)) :=
  bif (decide (v.1.2.2 < v.1.2.1)) then
    (idx v.1.2.2 (v.2.1).length).bind fun (x348 : Nat) =>
    ((v.2.1)[x348]?).bind fun (x349 : Int) =>
    (keyO x349 v.1.1).bind fun (x350 : Nat × (Int × Int × List Int)) =>
    (chk (decide (((v.2.2).length + (([x350.2] : List (Int × Int × List Int))).length) * 40 ≤ 140737488355328))).bind fun _ =>
    let x351 : List (Int × Int × List Int) := (v.2.2 ++ ([x350.2] : List (Int × Int × List Int)))
    let x352 : Int := (IntKind.wrap .i64 (v.1.2.2 + (1 : Int)))
    K.2.2 ((v.1.1, (v.1.2.1, x352)), (v.2.1, x351))
  else
    (F25_0 v.2.2).bind fun r353 =>
    some (r353)

def E14_0 (K : (((Int × Bool × (List (List Int × Int)) × Int × Int) × List Int × (List (Int × (Int × Int × List Int))) × List Int × Int) → Option (List (Int × Int × List Int))) × (((Int × Bool × (List (List Int × Int)) × Int × Int × List Int × Int × Int) × List Int × (List Int × Int) × List Int × (List (Int × (Int × Int × List Int))) × List Int × Int) → Option (List (Int × Int × List Int))) × ((((List (Int × (Int × Int × List Int))) × Int × Int) × List Int × List (Int × Int × List Int)) → Option (List (Int × Int × List Int)))) (v : (List Int × Int) × List (List Int × Int)) : Option (List (Int × Int × List Int)) :=
  (F24_0 v.2).bind fun r318 =>
  (F9_0 v.1).bind fun r319 =>
  K.1 ((r318, ((r319 == (0 : Int)), (v.2, (((v.2).length : Int), (0 : Int))))), (([] : List Int), (([] : List (Int × (Int × Int × List Int))), v.1)))

def K14_0 : Nat → (((Int × Bool × (List (List Int × Int)) × Int × Int) × List Int × (List (Int × (Int × Int × List Int))) × List Int × Int) → Option (List (Int × Int × List Int))) × (((Int × Bool × (List (List Int × Int)) × Int × Int × List Int × Int × Int) × List Int × (List Int × Int) × List Int × (List (Int × (Int × Int × List Int))) × List Int × Int) → Option (List (Int × Int × List Int))) × ((((List (Int × (Int × Int × List Int))) × Int × Int) × List Int × List (Int × Int × List Int)) → Option (List (Int × Int × List Int)))
  | 0 => (fun _ => none, fun _ => none, fun _ => none)
  | n + 1 => (B14_0_5 (K14_0 n), B14_0_9 (K14_0 n), B14_0_25 (K14_0 n))
def fuel14_0 (v : (List Int × Int) × List (List Int × Int)) : Nat := 20000
def F14_0 (v : (List Int × Int) × List (List Int × Int)) : Option (List (Int × Int × List Int)) := E14_0 (K14_0 (fuel14_0 v)) v
noncomputable def k14_0 : List (Known Try.prog E) := [Known.of envOk [7] [(.ros 26)] v24_0 F24_0 w24_0 ok24_0, Known.of envOk [9] [(.agg [(.ros 3), .keep])] v9_0 F9_0 w9_0 ok9_0, Known.of envOk [9, 9, 1, 1] [(.agg [(.ros 3), .keep]), (.agg [(.ros 3), .keep]), .keep, .keep] v22_0 F22_0 w22_0 ok22_0, Known.of envOk [7, 126] [(.own 0 48), (.fn (.func 26) [] [])] v25_0 F25_0 w25_0 ok25_0]
def s14_0_25 : List (Nat × Pat) := [(5, (.romap 48)), (15, (.own 0 48)), (85, (.own 1 3)), (86, .keep), (87, .keep)]
def s14_0_9 : List (Nat × Pat) := [(2, (.ptr 0 0 24 [(.ros 3), .keep])), (5, (.mrow 1 48)), (6, (.own 2 3)), (7, .keep), (8, .keep), (10, (.ptr 3 0 26 [(.ros 3), .keep])), (11, (.mset 4)), (24, (.ros 26)), (25, .keep), (26, .keep), (32, (.ros 3)), (33, .keep), (34, .keep)]
def s14_0_5 : List (Nat × Pat) := [(2, (.ptr 0 0 24 [(.ros 3), .keep])), (5, (.mrow 1 48)), (6, (.own 2 3)), (7, .keep), (8, .keep), (24, (.ros 26)), (25, .keep), (26, .keep)]
noncomputable def L14_0 (n id : Nat) (st : St G) : Option (List (Int × Int × List Int)) := match Nat.beq id 5 with | true => cutK Try.prog E s14_0_5 [] c14_0_5.dec (K14_0 n).1 st | false => match Nat.beq id 9 with | true => cutK Try.prog E s14_0_9 [] c14_0_9.dec (K14_0 n).2.1 st | false => match Nat.beq id 25 with | true => cutK Try.prog E s14_0_25 [] c14_0_25.dec (K14_0 n).2.2 st | false => none
set_option maxRecDepth 100000 in
theorem e14_0 (n : Nat) (v : (List Int × Int) × List (List Int × Int)) : ev Try.prog E (oracle k14_0) Try.f14.ntmps (fun x => mem x [5, 9, 25]) (L14_0 n) (finF Try.prog E Try.f14.results.toList [[]] w14_0.alts) 4000 [.code (Try.f14.body.getD .skip)] (argSt (v14_0.enc v)) = E14_0 (K14_0 n) v := by kernel_rfl
set_option maxRecDepth 100000 in
theorem b14_0_5 (n : Nat) (v : (Int × Bool × (List (List Int × Int)) × Int × Int) × List Int × (List (Int × (Int × Int × List Int))) × List Int × Int) : evCut Try.prog E (oracle k14_0) false 14 Try.f14.ntmps (fun x => mem x [5, 9, 25]) (L14_0 n) (finF Try.prog E Try.f14.results.toList [[]] w14_0.alts) 4000 (todoAt (Try.f14.body.getD .skip) 5) (cutSt s14_0_5 (c14_0_5.enc v)) = B14_0_5 (K14_0 n) v := by kernel_rfl
set_option maxRecDepth 100000 in
theorem b14_0_9 (n : Nat) (v : (Int × Bool × (List (List Int × Int)) × Int × Int × List Int × Int × Int) × List Int × (List Int × Int) × List Int × (List (Int × (Int × Int × List Int))) × List Int × Int) : evCut Try.prog E (oracle k14_0) false 14 Try.f14.ntmps (fun x => mem x [5, 9, 25]) (L14_0 n) (finF Try.prog E Try.f14.results.toList [[]] w14_0.alts) 4000 (todoAt (Try.f14.body.getD .skip) 9) (cutSt s14_0_9 (c14_0_9.enc v)) = B14_0_9 (K14_0 n) v := by kernel_rfl
set_option maxRecDepth 100000 in
theorem b14_0_25 (n : Nat) (v : ((List (Int × (Int × Int × List Int))) × Int × Int) × List Int × List (Int × Int × List Int)) : evCut Try.prog E (oracle k14_0) false 14 Try.f14.ntmps (fun x => mem x [5, 9, 25]) (L14_0 n) (finF Try.prog E Try.f14.results.toList [[]] w14_0.alts) 4000 (todoAt (Try.f14.body.getD .skip) 25) (cutSt s14_0_25 (c14_0_25.enc v)) = B14_0_25 (K14_0 n) v := by kernel_rfl
theorem ok14_0 : FnOk Try.prog E 14 v14_0.enc F14_0 w14_0.enc :=
  fn_known (fn := Try.f14) (c := (Try.f14.body.getD .skip)) Try.func14 (by kernel_rfl) rfl envOk (oracle_ok k14_0) mixed v14_0 F14_0 w14_0 [] [[]] (by kernel_rfl) [5, 9, 25] 4000 L14_0 (by kernel_rfl)
    (List.forall_mem_cons.2 ⟨⟨_, [], s14_0_5, c14_0_5.dec, c14_0_5.enc, fun n => (K14_0 n).1, c14_0_5.ok, fun _ _ => rfl, fun _ => rfl, by kernel_rfl, fun n v _ h => (b14_0_5 n v).trans h⟩, List.forall_mem_cons.2 ⟨⟨_, [], s14_0_9, c14_0_9.dec, c14_0_9.enc, fun n => (K14_0 n).2.1, c14_0_9.ok, fun _ _ => rfl, fun _ => rfl, by kernel_rfl, fun n v _ h => (b14_0_9 n v).trans h⟩, List.forall_mem_cons.2 ⟨⟨_, [], s14_0_25, c14_0_25.dec, c14_0_25.enc, fun n => (K14_0 n).2.2, c14_0_25.ok, fun _ _ => rfl, fun _ => rfl, by kernel_rfl, fun n v _ h => (b14_0_25 n v).trans h⟩, fun _ h => (nomatch h)⟩⟩⟩) (fun v _ h => ⟨fuel14_0 v, (e14_0 _ v).trans h⟩) (fun _ => by kernel_rfl) (fun _ => by kernel_rfl) (fun _ _ => by kernel_rfl)
/- chicane/points.Table -/
abbrev A14_1 : Type := Int × (List (List Int × Int)) × List Int
abbrev R14_1 : Type := (List (Int × Int × List Int)) × List Int × List (List Int × Int)
def v14_1 : Pk G (Int × (List (List Int × Int)) × List Int) := (pk (Sh.fst (Sh.cons (Sh.agg (Sh.snd (Sh.cons (Sh.osl 0) (Sh.fst (Sh.cons (Sh.int .i64) Sh.nil))))) (Sh.snd (Sh.cons (Sh.osl 1) Sh.nil)))) (Sh.hrow 1 26 (Sh.fst (Sh.hrow 0 3 Sh.hnil))))
def w14_1 : Wk G ((List (Int × Int × List Int)) × List Int × List (List Int × Int)) := (Wk.one [(.own 2 48)] (Pk.snd (pk (Sh.snd (Sh.cons (Sh.osl 2) Sh.nil)) (Sh.hrow 2 48 (Sh.hrow 0 3 (Sh.fst (Sh.hrow 1 26 Sh.hnil)))))))
def c14_1_5 : Pk G ((Int × Bool × Int × Int) × List Int × (List (Int × (Int × Int × List Int))) × Int × List Int × List (List Int × Int)) := (pk (Sh.snd (Sh.cons (Sh.ptr 2 0) (Sh.snd (Sh.cons (Sh.mapv 3) (Sh.snd (Sh.cons (Sh.osl 4) (Sh.cons (Sh.int .i64) (Sh.cons Sh.bool (Sh.snd (Sh.cons (Sh.osl 1) (Sh.cons (Sh.int .i64) (Sh.fst (Sh.cons (Sh.int .i64) Sh.nil))))))))))))) (Sh.hrow 4 3 (Sh.hmrow 3 48 (Sh.hfix 2 24 (Sh.snd (Sh.cons (Sh.osl 0) (Sh.fst (Sh.cons (Sh.int .i64) Sh.nil)))) (Sh.hrow 0 3 (Sh.fst (Sh.hrow 1 26 Sh.hnil)))))))
def c14_1_9 : Pk G ((Int × Bool × Int × Int × List Int × Int × Int) × List Int × (List Int × Int) × List Int × (List (Int × (Int × Int × List Int))) × Int × List Int × List (List Int × Int)) := (pk (Sh.snd (Sh.cons (Sh.ptr 2 0) (Sh.snd (Sh.cons (Sh.mapv 3) (Sh.snd (Sh.cons (Sh.osl 4) (Sh.cons (Sh.int .i64) (Sh.cons Sh.bool (Sh.snd (Sh.cons (Sh.ptr 5 0) (Sh.snd (Sh.cons (Sh.mapv 6) (Sh.snd (Sh.cons (Sh.osl 1) (Sh.cons (Sh.int .i64) (Sh.cons (Sh.int .i64) (Sh.cons (Sh.ros 3) (Sh.cons (Sh.int .i64) (Sh.fst (Sh.cons (Sh.int .i64) Sh.nil)))))))))))))))))))) (Sh.hset 6 (Sh.hfix 5 26 (Sh.cons (Sh.ros 3) (Sh.fst (Sh.cons (Sh.int .i64) Sh.nil))) (Sh.hrow 4 3 (Sh.hmrow 3 48 (Sh.hfix 2 24 (Sh.snd (Sh.cons (Sh.osl 0) (Sh.fst (Sh.cons (Sh.int .i64) Sh.nil)))) (Sh.hrow 0 3 (Sh.fst (Sh.hrow 1 26 Sh.hnil)))))))))
def c14_1_25 : Pk G (((List (Int × (Int × Int × List Int))) × Int × Int) × List Int × (List (Int × Int × List Int)) × List Int × List (List Int × Int)) := (pk (Sh.cons (Sh.romap 48) (Sh.snd (Sh.cons (Sh.osl 2) (Sh.snd (Sh.cons (Sh.osl 3) (Sh.cons (Sh.int .i64) (Sh.fst (Sh.cons (Sh.int .i64) Sh.nil)))))))) (Sh.hrow 3 3 (Sh.hrow 2 48 (Sh.hrow 0 3 (Sh.fst (Sh.hrow 1 26 Sh.hnil))))))
def B14_1_5 (K : (((Int × Bool × Int × Int) × List Int × (List (Int × (Int × Int × List Int))) × Int × List Int × List (List Int × Int)) → Option ((List (Int × Int × List Int)) × List Int × List (List Int × Int))) × (((Int × Bool × Int × Int × List Int × Int × Int) × List Int × (List Int × Int) × List Int × (List (Int × (Int × Int × List Int))) × Int × List Int × List (List Int × Int)) → Option ((List (Int × Int × List Int)) × List Int × List (List Int × Int))) × ((((List (Int × (Int × Int × List Int))) × Int × Int) × List Int × (List (Int × Int × List Int)) × List Int × List (List Int × Int)) → Option ((List (Int × Int × List Int)) × List Int × List (List Int × Int)))) (v : (Int × Bool × Int × Int) × List Int × (List (Int × (Int × Int × List Int))) × Int × List Int × List (List Int × Int)) : Option ((List (Int × Int × List Int)) × List Int × List (List Int × Int)) :=
  bif (decide (v.1.2.2.2 < v.1.2.2.1)) then
    (idx v.1.2.2.2 (v.2.2.2.2.2).length).bind fun (x490 : Nat) =>
    ((v.2.2.2.2.2)[x490]?).bind fun (x491 : List Int × Int) =>
    K.2.1 ((v.1.1, (v.1.2.1, (v.1.2.2.1, (v.1.2.2.2, (x491.1, (((x491.1).length : Int), (0 : Int))))))), (([] : List Int), (x491, v.2)))
  else
    K.2.2 ((v.2.2.1, (((v.2.1).length : Int), (0 : Int))), (v.2.1, (([] : List (Int × Int × List Int)), v.2.2.2.2)))

def B14_1_9 (K : (((Int × Bool × Int × Int) × List Int × (List (Int × (Int × Int × List Int))) × Int × List Int × List (List Int × Int)) → Option ((List (Int × Int × List Int)) × List Int × List (List Int × Int))) × (((Int × Bool × Int × Int × List Int × Int × Int) × List Int × (List Int × Int) × List Int × (List (Int × (Int × Int × List Int))) × Int × List Int × List (List Int × Int)) → Option ((List (Int × Int × List Int)) × List Int × List (List Int × Int))) × ((((List (Int × (Int × Int × List Int))) × Int × Int) × List Int × (List (Int × Int × List Int)) × List Int × List (List Int × Int)) → Option ((List (Int × Int × List Int)) × List Int × List (List Int × Int)))) (v : (Int × Bool × Int × Int × List Int × Int × Int) × List Int × (List Int × Int) × List Int × (List (Int × (Int × Int × List Int))) × Int × List Int × List (List Int × Int)) : Option ((List (Int × Int × List Int)) × List Int × List (List Int × Int)) :=
  bif (decide (v.1.2.2.2.2.2.2 < v.1.2.2.2.2.2.1)) then
    (rdx v.1.2.2.2.2.1 v.1.2.2.2.2.2.2).bind fun (x492 : Int) =>
    bif (hasI x492 v.2.1) then
      let x493 : Int := (IntKind.wrap .i64 (v.1.2.2.2.2.2.2 + (1 : Int)))
      K.2.1 ((v.1.1, (v.1.2.1, (v.1.2.2.1, (v.1.2.2.2.1, (v.1.2.2.2.2.1, (v.1.2.2.2.2.2.1, x493)))))), v.2)
    else
      let x494 : List Int := (addI x492 v.2.1)
      match (keyS x492 v.2.2.2.2.1) with
      | .inl q495 =>
        (idx v.1.2.2.2.2.2.2 (q495.2.2.2).length).bind fun (x497 : Nat) =>
        ((q495.2.2.2)[x497]?).bind fun (x498 : Int) =>
        let x499 : Int := (IntKind.wrap .i64 (x498 + (1 : Int)))
        (idx v.1.2.2.2.2.2.2 (q495.2.2.2).length).bind fun (x500 : Nat) =>
        ((q495.2.2.2)[x500]?).bind fun _ =>
        let x502 : List Int := (q495.2.2.2).set x500 (x499)
        bif v.1.2.1 then
          (F22_0 ((v.2.2.2.2.2.2.1, v.2.2.2.2.2.1), (v.2.2.1, (x492, v.1.2.2.2.2.2.2)))).bind fun r503 =>
          let x504 : Int := (IntKind.wrap .i64 (q495.2.2.1 + r503))
          let x505 : Int := (IntKind.wrap .i64 (v.1.2.2.2.2.2.2 + (1 : Int)))
          K.2.1 ((v.1.1, (v.1.2.1, (v.1.2.2.1, (v.1.2.2.2.1, (v.1.2.2.2.2.1, (v.1.2.2.2.2.2.1, x505)))))), (x494, (v.2.2.1, (v.2.2.2.1, ((setVal v.2.2.2.2.1 q495.1 (q495.2.1, (x504, x502))), v.2.2.2.2.2)))))
        else
          let x506 : Int := (IntKind.wrap .i64 (v.1.2.2.2.2.2.2 + (1 : Int)))
          K.2.1 ((v.1.1, (v.1.2.1, (v.1.2.2.1, (v.1.2.2.2.1, (v.1.2.2.2.2.1, (v.1.2.2.2.2.2.1, x506)))))), (x494, (v.2.2.1, (v.2.2.2.1, ((setVal v.2.2.2.2.1 q495.1 (q495.2.1, (q495.2.2.1, x502))), v.2.2.2.2.2)))))
      | .inr u496 =>
        (chk (decide (0 ≤ v.1.1 ∧ v.1.1 ≤ v.1.1 ∧ v.1.1 * 8 ≤ 140737488355328 ∧ v.1.1 ≤ 9223372036854775807))).bind fun _ =>
        (noKey x492 v.2.2.2.2.1).bind fun _ =>
        (chk (decide (((v.2.2.2.1).length + (([x492] : List Int)).length) * 8 ≤ 140737488355328))).bind fun _ =>
        let x507 : List Int := (v.2.2.2.1 ++ ([x492] : List Int))
        (idx v.1.2.2.2.2.2.2 ((List.replicate (v.1.1).toNat ((0 : Int) : Int))).length).bind fun (x508 : Nat) =>
        (((List.replicate (v.1.1).toNat ((0 : Int) : Int)))[x508]?).bind fun (x509 : Int) =>
        let x510 : Int := (IntKind.wrap .i64 (x509 + (1 : Int)))
        (idx v.1.2.2.2.2.2.2 ((List.replicate (v.1.1).toNat ((0 : Int) : Int))).length).bind fun (x511 : Nat) =>
        (((List.replicate (v.1.1).toNat ((0 : Int) : Int)))[x511]?).bind fun _ =>
        let x513 : List Int := ((List.replicate (v.1.1).toNat ((0 : Int) : Int))).set x511 (x510)
        bif v.1.2.1 then
          (F22_0 ((v.2.2.2.2.2.2.1, v.2.2.2.2.2.1), (v.2.2.1, (x492, v.1.2.2.2.2.2.2)))).bind fun r514 =>
          let x515 : Int := (IntKind.wrap .i64 ((0 : Int) + r514))
          let x516 : Int := (IntKind.wrap .i64 (v.1.2.2.2.2.2.2 + (1 : Int)))
          K.2.1 ((v.1.1, (v.1.2.1, (v.1.2.2.1, (v.1.2.2.2.1, (v.1.2.2.2.2.1, (v.1.2.2.2.2.2.1, x516)))))), (x494, (v.2.2.1, (x507, ((setVal (v.2.2.2.2.1 ++ [(x492, (x492, ((0 : Int), (List.replicate (v.1.1).toNat ((0 : Int) : Int)))))]) (v.2.2.2.2.1).length (x492, (x515, x513))), v.2.2.2.2.2)))))
        else
          let x517 : Int := (IntKind.wrap .i64 (v.1.2.2.2.2.2.2 + (1 : Int)))
          K.2.1 ((v.1.1, (v.1.2.1, (v.1.2.2.1, (v.1.2.2.2.1, (v.1.2.2.2.2.1, (v.1.2.2.2.2.2.1, x517)))))), (x494, (v.2.2.1, (x507, ((setVal (v.2.2.2.2.1 ++ [(x492, (x492, ((0 : Int), (List.replicate (v.1.1).toNat ((0 : Int) : Int)))))]) (v.2.2.2.2.1).length (x492, ((0 : Int), x513))), v.2.2.2.2.2)))))
  else
    let x518 : Int := (IntKind.wrap .i64 (v.1.2.2.2.1 + (1 : Int)))
    K.1 ((v.1.1, (v.1.2.1, (v.1.2.2.1, x518))), v.2.2.2)

def B14_1_25 (K : (((Int × Bool × Int × Int) × List Int × (List (Int × (Int × Int × List Int))) × Int × List Int × List (List Int × Int)) → Option ((List (Int × Int × List Int)) × List Int × List (List Int × Int))) × (((Int × Bool × Int × Int × List Int × Int × Int) × List Int × (List Int × Int) × List Int × (List (Int × (Int × Int × List Int))) × Int × List Int × List (List Int × Int)) → Option ((List (Int × Int × List Int)) × List Int × List (List Int × Int))) × ((((List (Int × (Int × Int × List Int))) × Int × Int) × List Int × (List (Int × Int × List Int)) × List Int × List (List Int × Int)) → Option ((List (Int × Int × List Int)) × List Int × List (List Int × Int)))) (v : ((List (Int × (Int × Int × List Int))) × Int × Int) × List Int × (List (Int × Int × List Int)) × List Int × List (List Int × Int)) : Option ((List (Int × Int × List Int)) × List Int × List (List Int × Int)) :=
  bif (decide (v.1.2.2 < v.1.2.1)) then
    (idx v.1.2.2 (v.2.1).length).bind fun (x519 : Nat) =>
    ((v.2.1)[x519]?).bind fun (x520 : Int) =>
    (keyO x520 v.1.1).bind fun (x521 : Nat × (Int × Int × List Int)) =>
    (chk (decide (((v.2.2.1).length + (([x521.2] : List (Int × Int × List Int))).length) * 40 ≤ 140737488355328))).bind fun _ =>
    let x522 : List (Int × Int × List Int) := (v.2.2.1 ++ ([x521.2] : List (Int × Int × List Int)))
    let x523 : Int := (IntKind.wrap .i64 (v.1.2.2 + (1 : Int)))
    K.2.2 ((v.1.1, (v.1.2.1, x523)), (v.2.1, (x522, v.2.2.2)))
  else
    (F25_0 v.2.2.1).bind fun r524 =>
    some (r524, v.2.2.2)

def E14_1 (K : (((Int × Bool × Int × Int) × List Int × (List (Int × (Int × Int × List Int))) × Int × List Int × List (List Int × Int)) → Option ((List (Int × Int × List Int)) × List Int × List (List Int × Int))) × (((Int × Bool × Int × Int × List Int × Int × Int) × List Int × (List Int × Int) × List Int × (List (Int × (Int × Int × List Int))) × Int × List Int × List (List Int × Int)) → Option ((List (Int × Int × List Int)) × List Int × List (List Int × Int))) × ((((List (Int × (Int × Int × List Int))) × Int × Int) × List Int × (List (Int × Int × List Int)) × List Int × List (List Int × Int)) → Option ((List (Int × Int × List Int)) × List Int × List (List Int × Int)))) (v : Int × (List (List Int × Int)) × List Int) : Option ((List (Int × Int × List Int)) × List Int × List (List Int × Int)) :=
  (F24_0 v.2.1).bind fun r488 =>
  (F9_0 (v.2.2, v.1)).bind fun r489 =>
  K.1 ((r488, ((r489 == (0 : Int)), (((v.2.1).length : Int), (0 : Int)))), (([] : List Int), (([] : List (Int × (Int × Int × List Int))), (v.1, (v.2.2, v.2.1)))))

def K14_1 : Nat → (((Int × Bool × Int × Int) × List Int × (List (Int × (Int × Int × List Int))) × Int × List Int × List (List Int × Int)) → Option ((List (Int × Int × List Int)) × List Int × List (List Int × Int))) × (((Int × Bool × Int × Int × List Int × Int × Int) × List Int × (List Int × Int) × List Int × (List (Int × (Int × Int × List Int))) × Int × List Int × List (List Int × Int)) → Option ((List (Int × Int × List Int)) × List Int × List (List Int × Int))) × ((((List (Int × (Int × Int × List Int))) × Int × Int) × List Int × (List (Int × Int × List Int)) × List Int × List (List Int × Int)) → Option ((List (Int × Int × List Int)) × List Int × List (List Int × Int)))
  | 0 => (fun _ => none, fun _ => none, fun _ => none)
  | n + 1 => (B14_1_5 (K14_1 n), B14_1_9 (K14_1 n), B14_1_25 (K14_1 n))
def fuel14_1 (v : Int × (List (List Int × Int)) × List Int) : Nat := 20000
def F14_1 (v : Int × (List (List Int × Int)) × List Int) : Option ((List (Int × Int × List Int)) × List Int × List (List Int × Int)) := E14_1 (K14_1 (fuel14_1 v)) v
noncomputable def k14_1 : List (Known Try.prog E) := [Known.of envOk [7] [(.ros 26)] v24_0 F24_0 w24_0 ok24_0, Known.of envOk [9] [(.agg [(.ros 3), .keep])] v9_0 F9_0 w9_0 ok9_0, Known.of envOk [9, 9, 1, 1] [(.agg [(.ros 3), .keep]), (.agg [(.ros 3), .keep]), .keep, .keep] v22_0 F22_0 w22_0 ok22_0, Known.of envOk [7, 126] [(.own 0 48), (.fn (.func 26) [] [])] v25_0 F25_0 w25_0 ok25_0]
def s14_1_25 : List (Nat × Pat) := [(5, (.romap 48)), (15, (.own 2 48)), (85, (.own 3 3)), (86, .keep), (87, .keep)]
def s14_1_9 : List (Nat × Pat) := [(2, (.ptr 2 0 24 [(.own 0 3), .keep])), (5, (.mrow 3 48)), (6, (.own 4 3)), (7, .keep), (8, .keep), (10, (.ptr 5 0 26 [(.ros 3), .keep])), (11, (.mset 6)), (24, (.own 1 26)), (25, .keep), (26, .keep), (32, (.ros 3)), (33, .keep), (34, .keep)]
def s14_1_5 : List (Nat × Pat) := [(2, (.ptr 2 0 24 [(.own 0 3), .keep])), (5, (.mrow 3 48)), (6, (.own 4 3)), (7, .keep), (8, .keep), (24, (.own 1 26)), (25, .keep), (26, .keep)]
noncomputable def L14_1 (n id : Nat) (st : St G) : Option ((List (Int × Int × List Int)) × List Int × List (List Int × Int)) := match Nat.beq id 5 with | true => cutK Try.prog E s14_1_5 [(.own 1 26), (.own 0 3)] c14_1_5.dec (K14_1 n).1 st | false => match Nat.beq id 9 with | true => cutK Try.prog E s14_1_9 [(.own 1 26), (.own 0 3)] c14_1_9.dec (K14_1 n).2.1 st | false => match Nat.beq id 25 with | true => cutK Try.prog E s14_1_25 [(.own 1 26), (.own 0 3)] c14_1_25.dec (K14_1 n).2.2 st | false => none
set_option maxRecDepth 100000 in
theorem e14_1 (n : Nat) (v : Int × (List (List Int × Int)) × List Int) : ev Try.prog E (oracle k14_1) Try.f14.ntmps (fun x => mem x [5, 9, 25]) (L14_1 n) (finF Try.prog E Try.f14.results.toList [[(.own 1 26), (.own 0 3)]] w14_1.alts) 4000 [.code (Try.f14.body.getD .skip)] (argSt (v14_1.enc v)) = E14_1 (K14_1 n) v := by kernel_rfl
set_option maxRecDepth 100000 in
theorem b14_1_5 (n : Nat) (v : (Int × Bool × Int × Int) × List Int × (List (Int × (Int × Int × List Int))) × Int × List Int × List (List Int × Int)) : evCut Try.prog E (oracle k14_1) false 14 Try.f14.ntmps (fun x => mem x [5, 9, 25]) (L14_1 n) (finF Try.prog E Try.f14.results.toList [[(.own 1 26), (.own 0 3)]] w14_1.alts) 4000 (todoAt (Try.f14.body.getD .skip) 5) (cutSt s14_1_5 (c14_1_5.enc v)) = B14_1_5 (K14_1 n) v := by kernel_rfl
set_option maxRecDepth 100000 in
theorem b14_1_9 (n : Nat) (v : (Int × Bool × Int × Int × List Int × Int × Int) × List Int × (List Int × Int) × List Int × (List (Int × (Int × Int × List Int))) × Int × List Int × List (List Int × Int)) : evCut Try.prog E (oracle k14_1) false 14 Try.f14.ntmps (fun x => mem x [5, 9, 25]) (L14_1 n) (finF Try.prog E Try.f14.results.toList [[(.own 1 26), (.own 0 3)]] w14_1.alts) 4000 (todoAt (Try.f14.body.getD .skip) 9) (cutSt s14_1_9 (c14_1_9.enc v)) = B14_1_9 (K14_1 n) v := by kernel_rfl
set_option maxRecDepth 100000 in
theorem b14_1_25 (n : Nat) (v : ((List (Int × (Int × Int × List Int))) × Int × Int) × List Int × (List (Int × Int × List Int)) × List Int × List (List Int × Int)) : evCut Try.prog E (oracle k14_1) false 14 Try.f14.ntmps (fun x => mem x [5, 9, 25]) (L14_1 n) (finF Try.prog E Try.f14.results.toList [[(.own 1 26), (.own 0 3)]] w14_1.alts) 4000 (todoAt (Try.f14.body.getD .skip) 25) (cutSt s14_1_25 (c14_1_25.enc v)) = B14_1_25 (K14_1 n) v := by kernel_rfl
theorem ok14_1 : FnOk Try.prog E 14 v14_1.enc F14_1 w14_1.enc :=
  fn_known (fn := Try.f14) (c := (Try.f14.body.getD .skip)) Try.func14 (by kernel_rfl) rfl envOk (oracle_ok k14_1) mixed v14_1 F14_1 w14_1 [(.own 1 26), (.own 0 3)] [[(.own 1 26), (.own 0 3)]] (by kernel_rfl) [5, 9, 25] 4000 L14_1 (by kernel_rfl)
    (List.forall_mem_cons.2 ⟨⟨_, [(.own 1 26), (.own 0 3)], s14_1_5, c14_1_5.dec, c14_1_5.enc, fun n => (K14_1 n).1, c14_1_5.ok, fun _ _ => rfl, fun _ => rfl, by kernel_rfl, fun n v _ h => (b14_1_5 n v).trans h⟩, List.forall_mem_cons.2 ⟨⟨_, [(.own 1 26), (.own 0 3)], s14_1_9, c14_1_9.dec, c14_1_9.enc, fun n => (K14_1 n).2.1, c14_1_9.ok, fun _ _ => rfl, fun _ => rfl, by kernel_rfl, fun n v _ h => (b14_1_9 n v).trans h⟩, List.forall_mem_cons.2 ⟨⟨_, [(.own 1 26), (.own 0 3)], s14_1_25, c14_1_25.dec, c14_1_25.enc, fun n => (K14_1 n).2.2, c14_1_25.ok, fun _ _ => rfl, fun _ => rfl, by kernel_rfl, fun n v _ h => (b14_1_25 n v).trans h⟩, fun _ h => (nomatch h)⟩⟩⟩) (fun v _ h => ⟨fuel14_1 v, (e14_1 _ v).trans h⟩) (fun _ => by kernel_rfl) (fun _ => by kernel_rfl) (fun _ _ => by kernel_rfl)
/- chicane/chicanelaw16.Ints -/
abbrev A18_0 : Type := List Int × List Int
abbrev R18_0 : Type := Bool
def v18_0 : Pk G (List Int × List Int) := (Pk.fst (pk (Sh.cons (Sh.ros 3) (Sh.fst (Sh.cons (Sh.ros 3) Sh.nil))) Sh.hnil))
def w18_0 : Wk G Bool := (Wk.one [.keep] (Pk.fst (pk (Sh.fst (Sh.cons Sh.bool Sh.nil)) Sh.hnil)))
def c18_0_4 : Pk G (List Int × List Int × Int) := (Pk.fst (pk (Sh.cons (Sh.ros 3) (Sh.cons (Sh.ros 3) (Sh.fst (Sh.cons (Sh.int .i64) Sh.nil)))) Sh.hnil))
def B18_0_4 (K : ((List Int × List Int × Int) → Option Bool)) (v : List Int × List Int × Int) : Option Bool :=
  bif (decide (v.2.2 < ((v.1).length : Int))) then
    (rdx v.1 v.2.2).bind fun (x542 : Int) =>
    (rdx v.2.1 v.2.2).bind fun (x543 : Int) =>
    bif (x542 != x543) then
      some (false)
    else
      let x544 : Int := (IntKind.wrap .i64 (v.2.2 + (1 : Int)))
      K (v.1, (v.2.1, x544))
  else
    some (true)

def E18_0 (K : ((List Int × List Int × Int) → Option Bool)) (v : List Int × List Int) : Option Bool :=
  bif (((v.1).length : Int) != ((v.2).length : Int)) then
    some (false)
  else
    K (v.1, (v.2, (0 : Int)))

def K18_0 : Nat → ((List Int × List Int × Int) → Option Bool)
  | 0 => (fun _ => none)
  | n + 1 => (B18_0_4 (K18_0 n))
def fuel18_0 (v : List Int × List Int) : Nat := 1000
def F18_0 (v : List Int × List Int) : Option Bool := E18_0 (K18_0 (fuel18_0 v)) v
noncomputable def k18_0 : List (Known Try.prog E) := []
def s18_0_4 : List (Nat × Pat) := [(0, (.ros 3)), (1, (.ros 3)), (5, .keep)]
noncomputable def L18_0 (n id : Nat) (st : St G) : Option Bool := match Nat.beq id 4 with | true => cutK Try.prog E s18_0_4 [] c18_0_4.dec (K18_0 n) st | false => none
set_option maxRecDepth 100000 in
theorem e18_0 (n : Nat) (v : List Int × List Int) : ev Try.prog E (oracle k18_0) Try.f18.ntmps (fun x => mem x [4]) (L18_0 n) (finF Try.prog E Try.f18.results.toList [[]] w18_0.alts) 4000 [.code (Try.f18.body.getD .skip)] (argSt (v18_0.enc v)) = E18_0 (K18_0 n) v := by kernel_rfl
set_option maxRecDepth 100000 in
theorem b18_0_4 (n : Nat) (v : List Int × List Int × Int) : evCut Try.prog E (oracle k18_0) false 18 Try.f18.ntmps (fun x => mem x [4]) (L18_0 n) (finF Try.prog E Try.f18.results.toList [[]] w18_0.alts) 4000 (todoAt (Try.f18.body.getD .skip) 4) (cutSt s18_0_4 (c18_0_4.enc v)) = B18_0_4 (K18_0 n) v := by kernel_rfl
theorem ok18_0 : FnOk Try.prog E 18 v18_0.enc F18_0 w18_0.enc :=
  fn_known (fn := Try.f18) (c := (Try.f18.body.getD .skip)) Try.func18 (by kernel_rfl) rfl envOk (oracle_ok k18_0) mixed v18_0 F18_0 w18_0 [] [[]] (by kernel_rfl) [4] 4000 L18_0 (by kernel_rfl)
    (List.forall_mem_cons.2 ⟨⟨_, [], s18_0_4, c18_0_4.dec, c18_0_4.enc, fun n => (K18_0 n), c18_0_4.ok, fun _ _ => rfl, fun _ => rfl, by kernel_rfl, fun n v _ h => (b18_0_4 n v).trans h⟩, fun _ h => (nomatch h)⟩) (fun v _ h => ⟨fuel18_0 v, (e18_0 _ v).trans h⟩) (fun _ => by kernel_rfl) (fun _ => by kernel_rfl) (fun _ _ => by kernel_rfl)
/- slices.Max[[]int,int] -/
abbrev A30_0 : Type := List Int
abbrev R30_0 : Type := Int
def v30_0 : Pk G (List Int) := (Pk.fst (pk (Sh.fst (Sh.cons (Sh.ros 3) Sh.nil)) Sh.hnil))
def w30_0 : Wk G Int := (Wk.one [.keep] (Pk.fst (pk (Sh.fst (Sh.cons (Sh.int .i64) Sh.nil)) Sh.hnil)))
def c30_0_5 : Pk G (List Int × Int × Int) := (Pk.fst (pk (Sh.cons (Sh.ros 3) (Sh.cons (Sh.int .i64) (Sh.fst (Sh.cons (Sh.int .i64) Sh.nil)))) Sh.hnil))
def B30_0_5 (K : ((List Int × Int × Int) → Option Int)) (v : List Int × Int × Int) : Option Int :=
  bif (decide (v.2.2 < ((v.1).length : Int))) then
    (rdx v.1 v.2.2).bind fun (x566 : Int) =>
    let x567 : Int := (if x566 > v.2.1 then x566 else v.2.1)
    let x568 : Int := (IntKind.wrap .i64 (v.2.2 + (1 : Int)))
    K (v.1, (x567, x568))
  else
    some (v.2.1)

def E30_0 (K : ((List Int × Int × Int) → Option Int)) (v : List Int) : Option Int :=
  bif (decide (((v).length : Int) < (1 : Int))) then
    none
  else
    (rdx v (0 : Int)).bind fun (x565 : Int) =>
    K (v, (x565, (1 : Int)))

def K30_0 : Nat → ((List Int × Int × Int) → Option Int)
  | 0 => (fun _ => none)
  | n + 1 => (B30_0_5 (K30_0 n))
def fuel30_0 (v : List Int) : Nat := 1000
def F30_0 (v : List Int) : Option Int := E30_0 (K30_0 (fuel30_0 v)) v
noncomputable def k30_0 : List (Known Try.prog E) := []
def s30_0_5 : List (Nat × Pat) := [(0, (.ros 3)), (3, .keep), (4, .keep)]
noncomputable def L30_0 (n id : Nat) (st : St G) : Option Int := match Nat.beq id 5 with | true => cutK Try.prog E s30_0_5 [] c30_0_5.dec (K30_0 n) st | false => none
set_option maxRecDepth 100000 in
theorem e30_0 (n : Nat) (v : List Int) : ev Try.prog E (oracle k30_0) Try.f30.ntmps (fun x => mem x [5]) (L30_0 n) (finF Try.prog E Try.f30.results.toList [[]] w30_0.alts) 4000 [.code (Try.f30.body.getD .skip)] (argSt (v30_0.enc v)) = E30_0 (K30_0 n) v := by kernel_rfl
set_option maxRecDepth 100000 in
theorem b30_0_5 (n : Nat) (v : List Int × Int × Int) : evCut Try.prog E (oracle k30_0) false 30 Try.f30.ntmps (fun x => mem x [5]) (L30_0 n) (finF Try.prog E Try.f30.results.toList [[]] w30_0.alts) 4000 (todoAt (Try.f30.body.getD .skip) 5) (cutSt s30_0_5 (c30_0_5.enc v)) = B30_0_5 (K30_0 n) v := by kernel_rfl
theorem ok30_0 : FnOk Try.prog E 30 v30_0.enc F30_0 w30_0.enc :=
  fn_known (fn := Try.f30) (c := (Try.f30.body.getD .skip)) Try.func30 (by kernel_rfl) rfl envOk (oracle_ok k30_0) mixed v30_0 F30_0 w30_0 [] [[]] (by kernel_rfl) [5] 4000 L30_0 (by kernel_rfl)
    (List.forall_mem_cons.2 ⟨⟨_, [], s30_0_5, c30_0_5.dec, c30_0_5.enc, fun n => (K30_0 n), c30_0_5.ok, fun _ _ => rfl, fun _ => rfl, by kernel_rfl, fun n v _ h => (b30_0_5 n v).trans h⟩, fun _ h => (nomatch h)⟩) (fun v _ h => ⟨fuel30_0 v, (e30_0 _ v).trans h⟩) (fun _ => by kernel_rfl) (fun _ => by kernel_rfl) (fun _ _ => by kernel_rfl)
/- chicane/points.Sure -/
abbrev A16_0 : Type := (List Int × Int) × (List (List Int × Int)) × Int
abbrev R16_0 : Type := Bool
def v16_0 : Pk G ((List Int × Int) × (List (List Int × Int)) × Int) := (Pk.fst (pk (Sh.cons (Sh.agg (Sh.cons (Sh.ros 3) (Sh.fst (Sh.cons (Sh.int .i64) Sh.nil)))) (Sh.cons (Sh.ros 26) (Sh.fst (Sh.cons (Sh.int .i64) Sh.nil)))) Sh.hnil))
def w16_0 : Wk G Bool := (Wk.one [.keep] (Pk.fst (pk (Sh.fst (Sh.cons Sh.bool Sh.nil)) Sh.hnil)))
def F16_0 (v : (List Int × Int) × (List (List Int × Int)) × Int) : Option Bool :=
  (F14_0 (v.1, v.2.1)).bind fun r595 =>
  bif (((r595).length : Int) == (0 : Int)) then
    some (false)
  else
    bif (decide (v.2.2 < (0 : Int))) then
      some (false)
    else
      bif (decide (v.2.2 > (1000 : Int))) then
        some (false)
      else
        (F9_0 v.1).bind fun r596 =>
        bif (r596 != (0 : Int)) then
          some (false)
        else
          bif (decide (((r595).length : Int) > (1 : Int))) then
            (idx (1 : Int) (r595).length).bind fun (x597 : Nat) =>
            ((r595)[x597]?).bind fun (x598 : Int × Int × List Int) =>
            (idx (0 : Int) (r595).length).bind fun (x599 : Nat) =>
            ((r595)[x599]?).bind fun (x600 : Int × Int × List Int) =>
            (F30_0 v.1.1).bind fun r601 =>
            let x602 : Int := (IntKind.wrap .i64 (r601 + v.1.2))
            let x603 : Int := (IntKind.wrap .i64 (v.2.2 * x602))
            let x604 : Int := (IntKind.wrap .i64 (x598.2.1 + x603))
            some (decide (x600.2.1 > x604))
          else
            (idx (0 : Int) (r595).length).bind fun (x605 : Nat) =>
            ((r595)[x605]?).bind fun (x606 : Int × Int × List Int) =>
            (F30_0 v.1.1).bind fun r607 =>
            let x608 : Int := (IntKind.wrap .i64 (r607 + v.1.2))
            let x609 : Int := (IntKind.wrap .i64 (v.2.2 * x608))
            let x610 : Int := (IntKind.wrap .i64 ((0 : Int) + x609))
            some (decide (x606.2.1 > x610))

noncomputable def k16_0 : List (Known Try.prog E) := [Known.of envOk [9, 7] [(.agg [(.ros 3), .keep]), (.ros 26)] v14_0 F14_0 w14_0 ok14_0, Known.of envOk [9] [(.agg [(.ros 3), .keep])] v9_0 F9_0 w9_0 ok9_0, Known.of envOk [7] [(.ros 3)] v30_0 F30_0 w30_0 ok30_0]
noncomputable def L16_0 (n id : Nat) (st : St G) : Option Bool := none
set_option maxRecDepth 100000 in
theorem e16_0 (n : Nat) (v : (List Int × Int) × (List (List Int × Int)) × Int) : ev Try.prog E (oracle k16_0) Try.f16.ntmps (fun x => mem x []) (L16_0 n) (finF Try.prog E Try.f16.results.toList [[]] w16_0.alts) 4000 [.code (Try.f16.body.getD .skip)] (argSt (v16_0.enc v)) = F16_0 v := by kernel_rfl
theorem ok16_0 : FnOk Try.prog E 16 v16_0.enc F16_0 w16_0.enc :=
  fn_known (fn := Try.f16) (c := (Try.f16.body.getD .skip)) Try.func16 (by kernel_rfl) rfl envOk (oracle_ok k16_0) mixed v16_0 F16_0 w16_0 [] [[]] (by kernel_rfl) [] 4000 L16_0 (by kernel_rfl)
    (fun _ h => nomatch h) (fun v _ h => ⟨0, (e16_0 _ v).trans h⟩) (fun _ => by kernel_rfl) (fun _ => by kernel_rfl) (fun _ _ => by kernel_rfl)
/- chicane/chicanelaw48.awake -/
abbrev A13_0 : Type := Unit
abbrev R13_0 : Type := Bool
def v13_0 : Pk G Unit := (Pk.snd (pk Sh.nil Sh.hnil))
def w13_0 : Wk G Bool := (Wk.one [.keep] (Pk.fst (pk (Sh.fst (Sh.cons Sh.bool Sh.nil)) Sh.hnil)))
def F13_0 (v : Unit) : Option Bool :=
  (F14_1 ((1 : Int), (([(([(7 : Int), (3 : Int)] : List Int), (3 : Int)), (([(3 : Int), (7 : Int), (5 : Int)] : List Int), (-1 : Int))] : List (List Int × Int)), ([(10 : Int), (6 : Int)] : List Int)))).bind fun r628 =>
  bif (((r628.1).length : Int) == (3 : Int)) then
    (idx (0 : Int) (r628.1).length).bind fun (x629 : Nat) =>
    ((r628.1)[x629]?).bind fun (x630 : Int × Int × List Int) =>
    bif (x630.1 == (3 : Int)) then
      (idx (0 : Int) (r628.1).length).bind fun (x631 : Nat) =>
      ((r628.1)[x631]?).bind fun (x632 : Int × Int × List Int) =>
      bif (x632.2.1 == (17 : Int)) then
        (idx (1 : Int) (r628.1).length).bind fun (x633 : Nat) =>
        ((r628.1)[x633]?).bind fun (x634 : Int × Int × List Int) =>
        bif (x634.2.1 == (16 : Int)) then
          (idx (2 : Int) (r628.1).length).bind fun (x635 : Nat) =>
          ((r628.1)[x635]?).bind fun (x636 : Int × Int × List Int) =>
          (F18_0 (x636.2.2, ([(0 : Int), (0 : Int), (1 : Int)] : List Int))).bind fun r637 =>
          bif r637 then
            (idx (0 : Int) (r628.2.2).length).bind fun (x638 : Nat) =>
            ((r628.2.2)[x638]?).bind fun (x639 : List Int × Int) =>
            (F11_0 ((r628.2.1, (1 : Int)), (x639, (3 : Int)))).bind fun r640 =>
            bif (r640 == (7 : Int)) then
              (F16_0 ((r628.2.1, (1 : Int)), (r628.2.2, (0 : Int)))).bind fun r641 =>
              bif r641 then
                (F16_0 ((r628.2.1, (1 : Int)), (r628.2.2, (1 : Int)))).bind fun r642 =>
                some (!r642)
              else
                some (false)
            else
              some (false)
          else
            some (false)
        else
          some (false)
      else
        some (false)
    else
      some (false)
  else
    some (false)

noncomputable def k13_0 : List (Known Try.prog E) := [Known.of envOk [9, 17] [(.agg [(.own 0 3), .keep]), (.own 1 26)] v14_1 F14_1 w14_1 ok14_1, Known.of envOk [7, 7] [(.ros 3), (.ros 3)] v18_0 F18_0 w18_0 ok18_0, Known.of envOk [9, 9, 1] [(.agg [(.ros 3), .keep]), (.agg [(.ros 3), .keep]), .keep] v11_0 F11_0 w11_0 ok11_0, Known.of envOk [9, 7, 1] [(.agg [(.ros 3), .keep]), (.ros 26), .keep] v16_0 F16_0 w16_0 ok16_0]
noncomputable def L13_0 (n id : Nat) (st : St G) : Option Bool := none
set_option maxRecDepth 100000 in
theorem e13_0 (n : Nat) (v : Unit) : ev Try.prog E (oracle k13_0) Try.f13.ntmps (fun x => mem x []) (L13_0 n) (finF Try.prog E Try.f13.results.toList [[]] w13_0.alts) 4000 [.code (Try.f13.body.getD .skip)] (argSt (v13_0.enc v)) = F13_0 v := by kernel_rfl
theorem ok13_0 : FnOk Try.prog E 13 v13_0.enc F13_0 w13_0.enc :=
  fn_known (fn := Try.f13) (c := (Try.f13.body.getD .skip)) Try.func13 (by kernel_rfl) rfl envOk (oracle_ok k13_0) mixed v13_0 F13_0 w13_0 [] [[]] (by kernel_rfl) [] 4000 L13_0 (by kernel_rfl)
    (fun _ h => nomatch h) (fun v _ h => ⟨0, (e13_0 _ v).trans h⟩) (fun _ => by kernel_rfl) (fun _ => by kernel_rfl) (fun _ _ => by kernel_rfl)
/- chicane/chicanelaw48.PointsScores -/
abbrev A3_0 : Type := (List Int × Int) × (List Int × Int) × Int
abbrev R3_0 : Type := Bool
def v3_0 : Pk G ((List Int × Int) × (List Int × Int) × Int) := (Pk.fst (pk (Sh.cons (Sh.agg (Sh.cons (Sh.ros 3) (Sh.fst (Sh.cons (Sh.int .i64) Sh.nil)))) (Sh.cons (Sh.agg (Sh.cons (Sh.ros 3) (Sh.fst (Sh.cons (Sh.int .i64) Sh.nil)))) (Sh.fst (Sh.cons (Sh.int .i64) Sh.nil)))) Sh.hnil))
def w3_0 : Wk G Bool := (Wk.one [.keep] (Pk.fst (pk (Sh.fst (Sh.cons Sh.bool Sh.nil)) Sh.hnil)))
def F3_0 (v : (List Int × Int) × (List Int × Int) × Int) : Option Bool :=
  (F7_0 (v.1, ([v.2.1] : List (List Int × Int)))).bind fun r653 =>
  bif (!r653) then
    some (true)
  else
    (F8_1 (v.1, ([v.2.1] : List (List Int × Int)))).bind fun r654 =>
    (F9_0 v.1).bind fun r655 =>
    (F10_0 r654.1).bind fun r656 =>
    bif (r655 == r656) then
      (F11_0 v).bind fun r657 =>
      (idx (0 : Int) (r654.2.1).length).bind fun (x658 : Nat) =>
      ((r654.2.1)[x658]?).bind fun (x659 : List Int × Int) =>
      (F12_0 (r654.1, (x659, v.2.2))).bind fun r660 =>
      bif (r657 == r660) then
        (F13_0 ()).bind fun r661 =>
        some (r661)
      else
        some (false)
    else
      some (false)

noncomputable def k3_0 : List (Known Try.prog E) := [Known.of envOk [9, 17] [(.agg [(.ros 3), .keep]), (.own 0 26)] v8_1 F8_1 w8_1 ok8_1, Known.of envOk [9, 7] [(.agg [(.ros 3), .keep]), (.ros 26)] v7_0 F7_0 w7_0 ok7_0, Known.of envOk [9] [(.agg [(.ros 3), .keep])] v9_0 F9_0 w9_0 ok9_0, Known.of envOk [9] [(.agg [(.ros 3), .keep])] v10_0 F10_0 w10_0 ok10_0, Known.of envOk [9, 9, 1] [(.agg [(.ros 3), .keep]), (.agg [(.ros 3), .keep]), .keep] v11_0 F11_0 w11_0 ok11_0, Known.of envOk [9, 9, 1] [(.agg [(.ros 3), .keep]), (.agg [(.ros 3), .keep]), .keep] v12_0 F12_0 w12_0 ok12_0, Known.of envOk [] [] v13_0 F13_0 w13_0 ok13_0]
noncomputable def L3_0 (n id : Nat) (st : St G) : Option Bool := none
set_option maxRecDepth 100000 in
theorem e3_0 (n : Nat) (v : (List Int × Int) × (List Int × Int) × Int) : ev Try.prog E (oracle k3_0) Try.f3.ntmps (fun x => mem x []) (L3_0 n) (finF Try.prog E Try.f3.results.toList [[]] w3_0.alts) 4000 [.code (Try.f3.body.getD .skip)] (argSt (v3_0.enc v)) = F3_0 v := by kernel_rfl
theorem ok3_0 : FnOk Try.prog E 3 v3_0.enc F3_0 w3_0.enc :=
  fn_known (fn := Try.f3) (c := (Try.f3.body.getD .skip)) Try.func3 (by kernel_rfl) rfl envOk (oracle_ok k3_0) mixed v3_0 F3_0 w3_0 [] [[]] (by kernel_rfl) [] 4000 L3_0 (by kernel_rfl)
    (fun _ h => nomatch h) (fun v _ h => ⟨0, (e3_0 _ v).trans h⟩) (fun _ => by kernel_rfl) (fun _ => by kernel_rfl) (fun _ _ => by kernel_rfl)
/- chicane/chicaneref48.met -/
abbrev A27_0 : Type := (List (Int × Int × List Int)) × Int
abbrev R27_0 : Type := Bool
def v27_0 : Pk G ((List (Int × Int × List Int)) × Int) := (Pk.fst (pk (Sh.cons (Sh.ros 49) (Sh.fst (Sh.cons (Sh.int .i64) Sh.nil))) Sh.hnil))
def w27_0 : Wk G Bool := (Wk.one [.keep] (Pk.fst (pk (Sh.fst (Sh.cons Sh.bool Sh.nil)) Sh.hnil)))
def c27_0_2 : Pk G ((List (Int × Int × List Int)) × Int × Int) := (Pk.fst (pk (Sh.cons (Sh.ros 49) (Sh.cons (Sh.int .i64) (Sh.fst (Sh.cons (Sh.int .i64) Sh.nil)))) Sh.hnil))
def B27_0_2 (K : (((List (Int × Int × List Int)) × Int × Int) → Option Bool)) (v : (List (Int × Int × List Int)) × Int × Int) : Option Bool :=
  bif (decide (v.2.2 < ((v.1).length : Int))) then
    (rdx v.1 v.2.2).bind fun (x680 : Int × Int × List Int) =>
    bif (x680.1 == v.2.1) then
      some (true)
    else
      let x681 : Int := (IntKind.wrap .i64 (v.2.2 + (1 : Int)))
      K (v.1, (v.2.1, x681))
  else
    some (false)

def E27_0 (K : (((List (Int × Int × List Int)) × Int × Int) → Option Bool)) (v : (List (Int × Int × List Int)) × Int) : Option Bool :=
  K (v.1, (v.2, (0 : Int)))

def K27_0 : Nat → (((List (Int × Int × List Int)) × Int × Int) → Option Bool)
  | 0 => (fun _ => none)
  | n + 1 => (B27_0_2 (K27_0 n))
def fuel27_0 (v : (List (Int × Int × List Int)) × Int) : Nat := 20000
def F27_0 (v : (List (Int × Int × List Int)) × Int) : Option Bool := E27_0 (K27_0 (fuel27_0 v)) v
noncomputable def k27_0 : List (Known Try.prog E) := []
def s27_0_2 : List (Nat × Pat) := [(0, (.ros 49)), (1, .keep), (5, .keep)]
noncomputable def L27_0 (n id : Nat) (st : St G) : Option Bool := match Nat.beq id 2 with | true => cutK Try.prog E s27_0_2 [] c27_0_2.dec (K27_0 n) st | false => none
set_option maxRecDepth 100000 in
theorem e27_0 (n : Nat) (v : (List (Int × Int × List Int)) × Int) : ev Try.prog E (oracle k27_0) Try.f27.ntmps (fun x => mem x [2]) (L27_0 n) (finF Try.prog E Try.f27.results.toList [[]] w27_0.alts) 4000 [.code (Try.f27.body.getD .skip)] (argSt (v27_0.enc v)) = E27_0 (K27_0 n) v := by kernel_rfl
set_option maxRecDepth 100000 in
theorem b27_0_2 (n : Nat) (v : (List (Int × Int × List Int)) × Int × Int) : evCut Try.prog E (oracle k27_0) false 27 Try.f27.ntmps (fun x => mem x [2]) (L27_0 n) (finF Try.prog E Try.f27.results.toList [[]] w27_0.alts) 4000 (todoAt (Try.f27.body.getD .skip) 2) (cutSt s27_0_2 (c27_0_2.enc v)) = B27_0_2 (K27_0 n) v := by kernel_rfl
theorem ok27_0 : FnOk Try.prog E 27 v27_0.enc F27_0 w27_0.enc :=
  fn_known (fn := Try.f27) (c := (Try.f27.body.getD .skip)) Try.func27 (by kernel_rfl) rfl envOk (oracle_ok k27_0) mixed v27_0 F27_0 w27_0 [] [[]] (by kernel_rfl) [2] 4000 L27_0 (by kernel_rfl)
    (List.forall_mem_cons.2 ⟨⟨_, [], s27_0_2, c27_0_2.dec, c27_0_2.enc, fun n => (K27_0 n), c27_0_2.ok, fun _ _ => rfl, fun _ => rfl, by kernel_rfl, fun n v _ h => (b27_0_2 n v).trans h⟩, fun _ h => (nomatch h)⟩) (fun v _ h => ⟨fuel27_0 v, (e27_0 _ v).trans h⟩) (fun _ => by kernel_rfl) (fun _ => by kernel_rfl) (fun _ _ => by kernel_rfl)
/- chicane/chicaneref48.row -/
abbrev A28_0 : Type := (List Int × Int) × (List (List Int × Int)) × Int × Int
abbrev R28_0 : Type := (Int × Int) × List Int
def v28_0 : Pk G ((List Int × Int) × (List (List Int × Int)) × Int × Int) := (Pk.fst (pk (Sh.cons (Sh.agg (Sh.cons (Sh.ros 3) (Sh.fst (Sh.cons (Sh.int .i64) Sh.nil)))) (Sh.cons (Sh.ros 38) (Sh.cons (Sh.int .i64) (Sh.fst (Sh.cons (Sh.int .i64) Sh.nil))))) Sh.hnil))
def w28_0 : Wk G ((Int × Int) × List Int) := (Wk.one [(.agg [.keep, .keep, (.own 0 3)])] (pk (Sh.fst (Sh.cons (Sh.agg (Sh.cons (Sh.int .i64) (Sh.fst (Sh.cons (Sh.int .i64) (Sh.snd (Sh.cons (Sh.osl 0) Sh.nil)))))) Sh.nil)) (Sh.fst (Sh.hrow 0 3 Sh.hnil))))
def c28_0_3 : Pk G (((List (List Int × Int)) × Int × Int) × (Int × Int) × List Int × (Int × Int) × List Int × List Int × Int) := (pk (Sh.cons (Sh.ros 38) (Sh.cons (Sh.int .i64) (Sh.snd (Sh.cons (Sh.ptr 0 0) (Sh.snd (Sh.cons (Sh.ptr 1 0) (Sh.snd (Sh.cons (Sh.ptr 3 0) (Sh.fst (Sh.cons (Sh.int .i64) Sh.nil)))))))))) (Sh.hfix 3 49 (Sh.cons (Sh.int .i64) (Sh.fst (Sh.cons (Sh.int .i64) (Sh.snd (Sh.cons (Sh.osl 4) Sh.nil))))) (Sh.hrow 4 3 (Sh.hfix 1 49 (Sh.cons (Sh.int .i64) (Sh.fst (Sh.cons (Sh.int .i64) (Sh.snd (Sh.cons (Sh.osl 2) Sh.nil))))) (Sh.hrow 2 3 (Sh.fst (Sh.hfix 0 29 (Sh.cons (Sh.ros 3) (Sh.fst (Sh.cons (Sh.int .i64) Sh.nil))) Sh.hnil)))))))
def c28_0_7 : Pk G (((List (List Int × Int)) × Int × Int × Int) × (Int × Int) × List Int × (Int × Int) × List Int × List Int × Int) := (pk (Sh.cons (Sh.ros 38) (Sh.cons (Sh.int .i64) (Sh.snd (Sh.cons (Sh.ptr 0 0) (Sh.snd (Sh.cons (Sh.ptr 1 0) (Sh.snd (Sh.cons (Sh.ptr 3 0) (Sh.cons (Sh.int .i64) (Sh.fst (Sh.cons (Sh.int .i64) Sh.nil))))))))))) (Sh.hfix 3 49 (Sh.cons (Sh.int .i64) (Sh.fst (Sh.cons (Sh.int .i64) (Sh.snd (Sh.cons (Sh.osl 4) Sh.nil))))) (Sh.hrow 4 3 (Sh.hfix 1 49 (Sh.cons (Sh.int .i64) (Sh.fst (Sh.cons (Sh.int .i64) (Sh.snd (Sh.cons (Sh.osl 2) Sh.nil))))) (Sh.hrow 2 3 (Sh.fst (Sh.hfix 0 29 (Sh.cons (Sh.ros 3) (Sh.fst (Sh.cons (Sh.int .i64) Sh.nil))) Sh.hnil)))))))
def B28_0_3 (K : ((((List (List Int × Int)) × Int × Int) × (Int × Int) × List Int × (Int × Int) × List Int × List Int × Int) → Option ((Int × Int) × List Int)) × ((((List (List Int × Int)) × Int × Int × Int) × (Int × Int) × List Int × (Int × Int) × List Int × List Int × Int) → Option ((Int × Int) × List Int))) (v : ((List (List Int × Int)) × Int × Int) × (Int × Int) × List Int × (Int × Int) × List Int × List Int × Int) : Option ((Int × Int) × List Int) :=
  bif (decide (v.1.2.2 < ((v.1.1).length : Int))) then
    (rdx v.1.1 v.1.2.2).bind fun (x718 : List Int × Int) =>
    (F12_0 (v.2.2.2.2.2, (x718, v.1.2.1))).bind fun r719 =>
    let x720 : Int := (IntKind.wrap .i64 (v.2.1.2 + r719))
    K.2 ((v.1.1, (v.1.2.1, (v.1.2.2, (0 : Int)))), ((v.2.1.1, x720), v.2.2))
  else
    some (v.2.1, v.2.2.1)

def B28_0_7 (K : ((((List (List Int × Int)) × Int × Int) × (Int × Int) × List Int × (Int × Int) × List Int × List Int × Int) → Option ((Int × Int) × List Int)) × ((((List (List Int × Int)) × Int × Int × Int) × (Int × Int) × List Int × (Int × Int) × List Int × List Int × Int) → Option ((Int × Int) × List Int))) (v : ((List (List Int × Int)) × Int × Int × Int) × (Int × Int) × List Int × (Int × Int) × List Int × List Int × Int) : Option ((Int × Int) × List Int) :=
  (rdx v.1.1 v.1.2.2.1).bind fun (x721 : List Int × Int) =>
  bif (decide (v.1.2.2.2 < ((x721.1).length : Int))) then
    (rdx v.1.1 v.1.2.2.1).bind fun (x722 : List Int × Int) =>
    (rdx x722.1 v.1.2.2.2).bind fun (x723 : Int) =>
    bif (x723 == v.1.2.1) then
      (idx v.1.2.2.2 (v.2.2.1).length).bind fun (x724 : Nat) =>
      ((v.2.2.1)[x724]?).bind fun (x725 : Int) =>
      let x726 : Int := (IntKind.wrap .i64 (x725 + (1 : Int)))
      (idx v.1.2.2.2 (v.2.2.1).length).bind fun (x727 : Nat) =>
      ((v.2.2.1)[x727]?).bind fun _ =>
      let x729 : List Int := (v.2.2.1).set x727 (x726)
      let x730 : Int := (IntKind.wrap .i64 (v.1.2.2.1 + (1 : Int)))
      K.1 ((v.1.1, (v.1.2.1, x730)), (v.2.1, (x729, v.2.2.2)))
    else
      let x731 : Int := (IntKind.wrap .i64 (v.1.2.2.2 + (1 : Int)))
      K.2 ((v.1.1, (v.1.2.1, (v.1.2.2.1, x731))), v.2)
  else
    let x732 : Int := (IntKind.wrap .i64 (v.1.2.2.1 + (1 : Int)))
    K.1 ((v.1.1, (v.1.2.1, x732)), v.2)

def E28_0 (K : ((((List (List Int × Int)) × Int × Int) × (Int × Int) × List Int × (Int × Int) × List Int × List Int × Int) → Option ((Int × Int) × List Int)) × ((((List (List Int × Int)) × Int × Int × Int) × (Int × Int) × List Int × (Int × Int) × List Int × List Int × Int) → Option ((Int × Int) × List Int))) (v : (List Int × Int) × (List (List Int × Int)) × Int × Int) : Option ((Int × Int) × List Int) :=
  (chk (decide (0 ≤ v.2.2.2 ∧ v.2.2.2 ≤ v.2.2.2 ∧ v.2.2.2 * 8 ≤ 140737488355328 ∧ v.2.2.2 ≤ 9223372036854775807))).bind fun _ =>
  K.1 ((v.2.1, (v.2.2.1, (0 : Int))), ((v.2.2.1, (0 : Int)), ((List.replicate (v.2.2.2).toNat ((0 : Int) : Int)), (((0 : Int), (0 : Int)), (([] : List Int), v.1)))))

def K28_0 : Nat → ((((List (List Int × Int)) × Int × Int) × (Int × Int) × List Int × (Int × Int) × List Int × List Int × Int) → Option ((Int × Int) × List Int)) × ((((List (List Int × Int)) × Int × Int × Int) × (Int × Int) × List Int × (Int × Int) × List Int × List Int × Int) → Option ((Int × Int) × List Int))
  | 0 => (fun _ => none, fun _ => none)
  | n + 1 => (B28_0_3 (K28_0 n), B28_0_7 (K28_0 n))
def fuel28_0 (v : (List Int × Int) × (List (List Int × Int)) × Int × Int) : Nat := 20000
def F28_0 (v : (List Int × Int) × (List (List Int × Int)) × Int × Int) : Option ((Int × Int) × List Int) := E28_0 (K28_0 (fuel28_0 v)) v
noncomputable def k28_0 : List (Known Try.prog E) := [Known.of envOk [9, 9, 1] [(.agg [(.ros 3), .keep]), (.agg [(.ros 3), .keep]), .keep] v12_0 F12_0 w12_0 ok12_0]
def s28_0_7 : List (Nat × Pat) := [(1, (.ros 38)), (2, .keep), (4, (.ptr 0 0 29 [(.ros 3), .keep])), (8, (.ptr 1 0 49 [.keep, .keep, (.own 2 3)])), (9, (.ptr 3 0 49 [.keep, .keep, (.own 4 3)])), (10, .keep), (11, .keep)]
def s28_0_3 : List (Nat × Pat) := [(1, (.ros 38)), (2, .keep), (4, (.ptr 0 0 29 [(.ros 3), .keep])), (8, (.ptr 1 0 49 [.keep, .keep, (.own 2 3)])), (9, (.ptr 3 0 49 [.keep, .keep, (.own 4 3)])), (10, .keep)]
noncomputable def L28_0 (n id : Nat) (st : St G) : Option ((Int × Int) × List Int) := match Nat.beq id 3 with | true => cutK Try.prog E s28_0_3 [] c28_0_3.dec (K28_0 n).1 st | false => match Nat.beq id 7 with | true => cutK Try.prog E s28_0_7 [] c28_0_7.dec (K28_0 n).2 st | false => none
set_option maxRecDepth 100000 in
theorem e28_0 (n : Nat) (v : (List Int × Int) × (List (List Int × Int)) × Int × Int) : ev Try.prog E (oracle k28_0) Try.f28.ntmps (fun x => mem x [3, 7]) (L28_0 n) (finF Try.prog E Try.f28.results.toList [[]] w28_0.alts) 4000 [.code (Try.f28.body.getD .skip)] (argSt (v28_0.enc v)) = E28_0 (K28_0 n) v := by kernel_rfl
set_option maxRecDepth 100000 in
theorem b28_0_3 (n : Nat) (v : ((List (List Int × Int)) × Int × Int) × (Int × Int) × List Int × (Int × Int) × List Int × List Int × Int) : evCut Try.prog E (oracle k28_0) false 28 Try.f28.ntmps (fun x => mem x [3, 7]) (L28_0 n) (finF Try.prog E Try.f28.results.toList [[]] w28_0.alts) 4000 (todoAt (Try.f28.body.getD .skip) 3) (cutSt s28_0_3 (c28_0_3.enc v)) = B28_0_3 (K28_0 n) v := by kernel_rfl
set_option maxRecDepth 100000 in
theorem b28_0_7 (n : Nat) (v : ((List (List Int × Int)) × Int × Int × Int) × (Int × Int) × List Int × (Int × Int) × List Int × List Int × Int) : evCut Try.prog E (oracle k28_0) false 28 Try.f28.ntmps (fun x => mem x [3, 7]) (L28_0 n) (finF Try.prog E Try.f28.results.toList [[]] w28_0.alts) 4000 (todoAt (Try.f28.body.getD .skip) 7) (cutSt s28_0_7 (c28_0_7.enc v)) = B28_0_7 (K28_0 n) v := by kernel_rfl
theorem ok28_0 : FnOk Try.prog E 28 v28_0.enc F28_0 w28_0.enc :=
  fn_known (fn := Try.f28) (c := (Try.f28.body.getD .skip)) Try.func28 (by kernel_rfl) rfl envOk (oracle_ok k28_0) mixed v28_0 F28_0 w28_0 [] [[]] (by kernel_rfl) [3, 7] 4000 L28_0 (by kernel_rfl)
    (List.forall_mem_cons.2 ⟨⟨_, [], s28_0_3, c28_0_3.dec, c28_0_3.enc, fun n => (K28_0 n).1, c28_0_3.ok, fun _ _ => rfl, fun _ => rfl, by kernel_rfl, fun n v _ h => (b28_0_3 n v).trans h⟩, List.forall_mem_cons.2 ⟨⟨_, [], s28_0_7, c28_0_7.dec, c28_0_7.enc, fun n => (K28_0 n).2, c28_0_7.ok, fun _ _ => rfl, fun _ => rfl, by kernel_rfl, fun n v _ h => (b28_0_7 n v).trans h⟩, fun _ h => (nomatch h)⟩⟩) (fun v _ h => ⟨fuel28_0 v, (e28_0 _ v).trans h⟩) (fun _ => by kernel_rfl) (fun _ => by kernel_rfl) (fun _ _ => by kernel_rfl)
/- chicane/chicaneref48.ahead -/
abbrev A29_0 : Type := (Int × Int × List Int) × Int × Int × List Int
abbrev R29_0 : Type := Bool
def v29_0 : Pk G ((Int × Int × List Int) × Int × Int × List Int) := (Pk.fst (pk (Sh.cons (Sh.agg (Sh.cons (Sh.int .i64) (Sh.cons (Sh.int .i64) (Sh.fst (Sh.cons (Sh.ros 3) Sh.nil))))) (Sh.fst (Sh.cons (Sh.agg (Sh.cons (Sh.int .i64) (Sh.cons (Sh.int .i64) (Sh.fst (Sh.cons (Sh.ros 3) Sh.nil))))) Sh.nil))) Sh.hnil))
def w29_0 : Wk G Bool := (Wk.one [.keep] (Pk.fst (pk (Sh.fst (Sh.cons Sh.bool Sh.nil)) Sh.hnil)))
def c29_0_4 : Pk G (Int × (Int × Int × List Int) × Int × Int × List Int) := (pk (Sh.snd (Sh.cons (Sh.ptr 0 0) (Sh.snd (Sh.cons (Sh.ptr 1 0) (Sh.fst (Sh.cons (Sh.int .i64) Sh.nil)))))) (Sh.hfix 1 49 (Sh.cons (Sh.int .i64) (Sh.cons (Sh.int .i64) (Sh.fst (Sh.cons (Sh.ros 3) Sh.nil)))) (Sh.fst (Sh.hfix 0 49 (Sh.cons (Sh.int .i64) (Sh.cons (Sh.int .i64) (Sh.fst (Sh.cons (Sh.ros 3) Sh.nil)))) Sh.hnil))))
def B29_0_4 (K : ((Int × (Int × Int × List Int) × Int × Int × List Int) → Option Bool)) (v : Int × (Int × Int × List Int) × Int × Int × List Int) : Option Bool :=
  bif (decide (v.1 < ((v.2.2.2.2).length : Int))) then
    (rdx v.2.2.2.2 v.1).bind fun (x751 : Int) =>
    (rdx v.2.1.2.2 v.1).bind fun (x752 : Int) =>
    bif (x751 != x752) then
      (rdx v.2.2.2.2 v.1).bind fun (x753 : Int) =>
      (rdx v.2.1.2.2 v.1).bind fun (x754 : Int) =>
      some (decide (x753 > x754))
    else
      let x755 : Int := (IntKind.wrap .i64 (v.1 + (1 : Int)))
      K (x755, v.2)
  else
    some (decide (v.2.2.1 < v.2.1.1))

def E29_0 (K : ((Int × (Int × Int × List Int) × Int × Int × List Int) → Option Bool)) (v : (Int × Int × List Int) × Int × Int × List Int) : Option Bool :=
  bif (v.1.2.1 != v.2.2.1) then
    some (decide (v.1.2.1 > v.2.2.1))
  else
    K ((0 : Int), (v.2, v.1))

def K29_0 : Nat → ((Int × (Int × Int × List Int) × Int × Int × List Int) → Option Bool)
  | 0 => (fun _ => none)
  | n + 1 => (B29_0_4 (K29_0 n))
def fuel29_0 (v : (Int × Int × List Int) × Int × Int × List Int) : Nat := 1000
def F29_0 (v : (Int × Int × List Int) × Int × Int × List Int) : Option Bool := E29_0 (K29_0 (fuel29_0 v)) v
noncomputable def k29_0 : List (Known Try.prog E) := []
def s29_0_4 : List (Nat × Pat) := [(2, (.ptr 0 0 49 [.keep, .keep, (.ros 3)])), (3, (.ptr 1 0 49 [.keep, .keep, (.ros 3)])), (5, .keep)]
noncomputable def L29_0 (n id : Nat) (st : St G) : Option Bool := match Nat.beq id 4 with | true => cutK Try.prog E s29_0_4 [] c29_0_4.dec (K29_0 n) st | false => none
set_option maxRecDepth 100000 in
theorem e29_0 (n : Nat) (v : (Int × Int × List Int) × Int × Int × List Int) : ev Try.prog E (oracle k29_0) Try.f29.ntmps (fun x => mem x [4]) (L29_0 n) (finF Try.prog E Try.f29.results.toList [[]] w29_0.alts) 4000 [.code (Try.f29.body.getD .skip)] (argSt (v29_0.enc v)) = E29_0 (K29_0 n) v := by kernel_rfl
set_option maxRecDepth 100000 in
theorem b29_0_4 (n : Nat) (v : Int × (Int × Int × List Int) × Int × Int × List Int) : evCut Try.prog E (oracle k29_0) false 29 Try.f29.ntmps (fun x => mem x [4]) (L29_0 n) (finF Try.prog E Try.f29.results.toList [[]] w29_0.alts) 4000 (todoAt (Try.f29.body.getD .skip) 4) (cutSt s29_0_4 (c29_0_4.enc v)) = B29_0_4 (K29_0 n) v := by kernel_rfl
theorem ok29_0 : FnOk Try.prog E 29 v29_0.enc F29_0 w29_0.enc :=
  fn_known (fn := Try.f29) (c := (Try.f29.body.getD .skip)) Try.func29 (by kernel_rfl) rfl envOk (oracle_ok k29_0) mixed v29_0 F29_0 w29_0 [] [[]] (by kernel_rfl) [4] 4000 L29_0 (by kernel_rfl)
    (List.forall_mem_cons.2 ⟨⟨_, [], s29_0_4, c29_0_4.dec, c29_0_4.enc, fun n => (K29_0 n), c29_0_4.ok, fun _ _ => rfl, fun _ => rfl, by kernel_rfl, fun n v _ h => (b29_0_4 n v).trans h⟩, fun _ h => (nomatch h)⟩) (fun v _ h => ⟨fuel29_0 v, (e29_0 _ v).trans h⟩) (fun _ => by kernel_rfl) (fun _ => by kernel_rfl) (fun _ _ => by kernel_rfl)
/- chicane/chicaneref48.Table -/
abbrev A15_0 : Type := (List Int × Int) × List (List Int × Int)
abbrev R15_0 : Type := List (Int × Int × List Int)
def v15_0 : Pk G ((List Int × Int) × List (List Int × Int)) := (Pk.fst (pk (Sh.cons (Sh.agg (Sh.cons (Sh.ros 3) (Sh.fst (Sh.cons (Sh.int .i64) Sh.nil)))) (Sh.fst (Sh.cons (Sh.ros 38) Sh.nil))) Sh.hnil))
def w15_0 : Wk G (List (Int × Int × List Int)) := (Wk.one [(.own 0 49)] (Pk.snd (pk (Sh.snd (Sh.cons (Sh.osl 0) Sh.nil)) (Sh.fst (Sh.hrow 0 49 Sh.hnil)))))
def c15_0_4 : Pk G (((List (List Int × Int)) × Int × Int) × (List (Int × Int × List Int)) × List Int × Int) := (pk (Sh.cons (Sh.ros 38) (Sh.snd (Sh.cons (Sh.ptr 0 0) (Sh.snd (Sh.cons (Sh.osl 1) (Sh.cons (Sh.int .i64) (Sh.fst (Sh.cons (Sh.int .i64) Sh.nil)))))))) (Sh.hrow 1 49 (Sh.fst (Sh.hfix 0 29 (Sh.cons (Sh.ros 3) (Sh.fst (Sh.cons (Sh.int .i64) Sh.nil))) Sh.hnil))))
def c15_0_8 : Pk G (((List (List Int × Int)) × Int × Int) × (List (Int × Int × List Int)) × List Int × Int) := (pk (Sh.cons (Sh.ros 38) (Sh.snd (Sh.cons (Sh.ptr 0 0) (Sh.snd (Sh.cons (Sh.osl 1) (Sh.cons (Sh.int .i64) (Sh.fst (Sh.cons (Sh.int .i64) Sh.nil)))))))) (Sh.hrow 1 49 (Sh.fst (Sh.hfix 0 29 (Sh.cons (Sh.ros 3) (Sh.fst (Sh.cons (Sh.int .i64) Sh.nil))) Sh.hnil))))
def c15_0_11 : Pk G (((List (List Int × Int)) × Int × Int × Int) × (List (Int × Int × List Int)) × List Int × Int) := (pk (Sh.cons (Sh.ros 38) (Sh.snd (Sh.cons (Sh.ptr 0 0) (Sh.snd (Sh.cons (Sh.osl 1) (Sh.cons (Sh.int .i64) (Sh.cons (Sh.int .i64) (Sh.fst (Sh.cons (Sh.int .i64) Sh.nil))))))))) (Sh.hrow 1 49 (Sh.fst (Sh.hfix 0 29 (Sh.cons (Sh.ros 3) (Sh.fst (Sh.cons (Sh.int .i64) Sh.nil))) Sh.hnil))))
def c15_0_17 : Pk G (((List (List Int × Int)) × Int × Int × Int × Int) × (Int × Int) × List Int × (List (Int × Int × List Int)) × List Int × Int) := (pk (Sh.cons (Sh.ros 38) (Sh.snd (Sh.cons (Sh.ptr 0 0) (Sh.snd (Sh.cons (Sh.osl 1) (Sh.cons (Sh.int .i64) (Sh.cons (Sh.int .i64) (Sh.cons (Sh.int .i64) (Sh.snd (Sh.cons (Sh.ptr 2 0) (Sh.fst (Sh.cons (Sh.int .i64) Sh.nil)))))))))))) (Sh.hfix 2 49 (Sh.cons (Sh.int .i64) (Sh.fst (Sh.cons (Sh.int .i64) (Sh.snd (Sh.cons (Sh.osl 3) Sh.nil))))) (Sh.hrow 3 3 (Sh.hrow 1 49 (Sh.fst (Sh.hfix 0 29 (Sh.cons (Sh.ros 3) (Sh.fst (Sh.cons (Sh.int .i64) Sh.nil))) Sh.hnil))))))
def B15_0_4 (K : ((((List (List Int × Int)) × Int × Int) × (List (Int × Int × List Int)) × List Int × Int) → Option (List (Int × Int × List Int))) × ((((List (List Int × Int)) × Int × Int) × (List (Int × Int × List Int)) × List Int × Int) → Option (List (Int × Int × List Int))) × ((((List (List Int × Int)) × Int × Int × Int) × (List (Int × Int × List Int)) × List Int × Int) → Option (List (Int × Int × List Int))) × ((((List (List Int × Int)) × Int × Int × Int × Int) × (Int × Int) × List Int × (List (Int × Int × List Int)) × List Int × Int) → Option (List (Int × Int × List Int)))) (v : ((List (List Int × Int)) × Int × Int) × (List (Int × Int × List Int)) × List Int × Int) : Option (List (Int × Int × List Int)) :=
  bif (decide (v.1.2.2 < ((v.1.1).length : Int))) then
    (rdx v.1.1 v.1.2.2).bind fun (x857 : List Int × Int) =>
    let x858 : Int := (if ((x857.1).length : Int) > v.1.2.1 then ((x857.1).length : Int) else v.1.2.1)
    let x859 : Int := (IntKind.wrap .i64 (v.1.2.2 + (1 : Int)))
    K.1 ((v.1.1, (x858, x859)), v.2)
  else
    K.2.1 ((v.1.1, (v.1.2.1, (0 : Int))), v.2)

def B15_0_8 (K : ((((List (List Int × Int)) × Int × Int) × (List (Int × Int × List Int)) × List Int × Int) → Option (List (Int × Int × List Int))) × ((((List (List Int × Int)) × Int × Int) × (List (Int × Int × List Int)) × List Int × Int) → Option (List (Int × Int × List Int))) × ((((List (List Int × Int)) × Int × Int × Int) × (List (Int × Int × List Int)) × List Int × Int) → Option (List (Int × Int × List Int))) × ((((List (List Int × Int)) × Int × Int × Int × Int) × (Int × Int) × List Int × (List (Int × Int × List Int)) × List Int × Int) → Option (List (Int × Int × List Int)))) (v : ((List (List Int × Int)) × Int × Int) × (List (Int × Int × List Int)) × List Int × Int) : Option (List (Int × Int × List Int)) :=
  bif (decide (v.1.2.2 < ((v.1.1).length : Int))) then
    K.2.2.1 ((v.1.1, (v.1.2.1, (v.1.2.2, (0 : Int)))), v.2)
  else
    some (v.2.1)

def B15_0_11 (K : ((((List (List Int × Int)) × Int × Int) × (List (Int × Int × List Int)) × List Int × Int) → Option (List (Int × Int × List Int))) × ((((List (List Int × Int)) × Int × Int) × (List (Int × Int × List Int)) × List Int × Int) → Option (List (Int × Int × List Int))) × ((((List (List Int × Int)) × Int × Int × Int) × (List (Int × Int × List Int)) × List Int × Int) → Option (List (Int × Int × List Int))) × ((((List (List Int × Int)) × Int × Int × Int × Int) × (Int × Int) × List Int × (List (Int × Int × List Int)) × List Int × Int) → Option (List (Int × Int × List Int)))) (v : ((List (List Int × Int)) × Int × Int × Int) × (List (Int × Int × List Int)) × List Int × Int) : Option (List (Int × Int × List Int)) :=
  (rdx v.1.1 v.1.2.2.1).bind fun (x860 : List Int × Int) =>
  bif (decide (v.1.2.2.2 < ((x860.1).length : Int))) then
    (rdx v.1.1 v.1.2.2.1).bind fun (x861 : List Int × Int) =>
    (rdx x861.1 v.1.2.2.2).bind fun (x862 : Int) =>
    (F27_0 (v.2.1, x862)).bind fun r863 =>
    bif r863 then
      let x864 : Int := (IntKind.wrap .i64 (v.1.2.2.2 + (1 : Int)))
      K.2.2.1 ((v.1.1, (v.1.2.1, (v.1.2.2.1, x864))), v.2)
    else
      (F28_0 (v.2.2, (v.1.1, (x862, v.1.2.1)))).bind fun r865 =>
      K.2.2.2 ((v.1.1, (v.1.2.1, (v.1.2.2.1, (v.1.2.2.2, ((v.2.1).length : Int))))), (r865.1, (r865.2, v.2)))
  else
    let x866 : Int := (IntKind.wrap .i64 (v.1.2.2.1 + (1 : Int)))
    K.2.1 ((v.1.1, (v.1.2.1, x866)), v.2)

def B15_0_17 (K : ((((List (List Int × Int)) × Int × Int) × (List (Int × Int × List Int)) × List Int × Int) → Option (List (Int × Int × List Int))) × ((((List (List Int × Int)) × Int × Int) × (List (Int × Int × List Int)) × List Int × Int) → Option (List (Int × Int × List Int))) × ((((List (List Int × Int)) × Int × Int × Int) × (List (Int × Int × List Int)) × List Int × Int) → Option (List (Int × Int × List Int))) × ((((List (List Int × Int)) × Int × Int × Int × Int) × (Int × Int) × List Int × (List (Int × Int × List Int)) × List Int × Int) → Option (List (Int × Int × List Int)))) (v : ((List (List Int × Int)) × Int × Int × Int × Int) × (Int × Int) × List Int × (List (Int × Int × List Int)) × List Int × Int) : Option (List (Int × Int × List Int)) :=
  bif (decide (v.1.2.2.2.2 > (0 : Int))) then
    let x867 : Int := (IntKind.wrap .i64 (v.1.2.2.2.2 - (1 : Int)))
    (idx x867 (v.2.2.2.1).length).bind fun (x868 : Nat) =>
    ((v.2.2.2.1)[x868]?).bind fun (x869 : Int × Int × List Int) =>
    (F29_0 ((v.2.1.1, (v.2.1.2, v.2.2.1)), x869)).bind fun r870 =>
    bif r870 then
      let x871 : Int := (IntKind.wrap .i64 (v.1.2.2.2.2 - (1 : Int)))
      K.2.2.2 ((v.1.1, (v.1.2.1, (v.1.2.2.1, (v.1.2.2.2.1, x871)))), v.2)
    else
      (cutn (0 : Int) v.1.2.2.2.2 ((v.2.2.2.1).length : Int)).bind fun (x872 : Nat × Nat) =>
      (chk (decide (((([] : List (Int × Int × List Int))).length + ((((v.2.2.2.1).drop x872.1).take x872.2)).length) * 40 ≤ 140737488355328))).bind fun _ =>
      let x873 : List (Int × Int × List Int) := (([] : List (Int × Int × List Int)) ++ (((v.2.2.2.1).drop x872.1).take x872.2))
      (chk (decide (((x873).length + (([(v.2.1.1, (v.2.1.2, v.2.2.1))] : List (Int × Int × List Int))).length) * 40 ≤ 140737488355328))).bind fun _ =>
      let x874 : List (Int × Int × List Int) := (x873 ++ ([(v.2.1.1, (v.2.1.2, v.2.2.1))] : List (Int × Int × List Int)))
      (cutn v.1.2.2.2.2 ((v.2.2.2.1).length : Int) ((v.2.2.2.1).length : Int)).bind fun (x875 : Nat × Nat) =>
      (chk (decide (((x874).length + ((((v.2.2.2.1).drop x875.1).take x875.2)).length) * 40 ≤ 140737488355328))).bind fun _ =>
      let x876 : List (Int × Int × List Int) := (x874 ++ (((v.2.2.2.1).drop x875.1).take x875.2))
      let x877 : Int := (IntKind.wrap .i64 (v.1.2.2.2.1 + (1 : Int)))
      K.2.2.1 ((v.1.1, (v.1.2.1, (v.1.2.2.1, x877))), (x876, v.2.2.2.2))
  else
    (cutn (0 : Int) v.1.2.2.2.2 ((v.2.2.2.1).length : Int)).bind fun (x878 : Nat × Nat) =>
    (chk (decide (((([] : List (Int × Int × List Int))).length + ((((v.2.2.2.1).drop x878.1).take x878.2)).length) * 40 ≤ 140737488355328))).bind fun _ =>
    let x879 : List (Int × Int × List Int) := (([] : List (Int × Int × List Int)) ++ (((v.2.2.2.1).drop x878.1).take x878.2))
    (chk (decide (((x879).length + (([(v.2.1.1, (v.2.1.2, v.2.2.1))] : List (Int × Int × List Int))).length) * 40 ≤ 140737488355328))).bind fun _ =>
    let x880 : List (Int × Int × List Int) := (x879 ++ ([(v.2.1.1, (v.2.1.2, v.2.2.1))] : List (Int × Int × List Int)))
    (cutn v.1.2.2.2.2 ((v.2.2.2.1).length : Int) ((v.2.2.2.1).length : Int)).bind fun (x881 : Nat × Nat) =>
    (chk (decide (((x880).length + ((((v.2.2.2.1).drop x881.1).take x881.2)).length) * 40 ≤ 140737488355328))).bind fun _ =>
    let x882 : List (Int × Int × List Int) := (x880 ++ (((v.2.2.2.1).drop x881.1).take x881.2))
    let x883 : Int := (IntKind.wrap .i64 (v.1.2.2.2.1 + (1 : Int)))
    K.2.2.1 ((v.1.1, (v.1.2.1, (v.1.2.2.1, x883))), (x882, v.2.2.2.2))

def E15_0 (K : ((((List (List Int × Int)) × Int × Int) × (List (Int × Int × List Int)) × List Int × Int) → Option (List (Int × Int × List Int))) × ((((List (List Int × Int)) × Int × Int) × (List (Int × Int × List Int)) × List Int × Int) → Option (List (Int × Int × List Int))) × ((((List (List Int × Int)) × Int × Int × Int) × (List (Int × Int × List Int)) × List Int × Int) → Option (List (Int × Int × List Int))) × ((((List (List Int × Int)) × Int × Int × Int × Int) × (Int × Int) × List Int × (List (Int × Int × List Int)) × List Int × Int) → Option (List (Int × Int × List Int)))) (v : (List Int × Int) × List (List Int × Int)) : Option (List (Int × Int × List Int)) :=
  K.1 ((v.2, ((0 : Int), (0 : Int))), (([] : List (Int × Int × List Int)), v.1))

def K15_0 : Nat → ((((List (List Int × Int)) × Int × Int) × (List (Int × Int × List Int)) × List Int × Int) → Option (List (Int × Int × List Int))) × ((((List (List Int × Int)) × Int × Int) × (List (Int × Int × List Int)) × List Int × Int) → Option (List (Int × Int × List Int))) × ((((List (List Int × Int)) × Int × Int × Int) × (List (Int × Int × List Int)) × List Int × Int) → Option (List (Int × Int × List Int))) × ((((List (List Int × Int)) × Int × Int × Int × Int) × (Int × Int) × List Int × (List (Int × Int × List Int)) × List Int × Int) → Option (List (Int × Int × List Int)))
  | 0 => (fun _ => none, fun _ => none, fun _ => none, fun _ => none)
  | n + 1 => (B15_0_4 (K15_0 n), B15_0_8 (K15_0 n), B15_0_11 (K15_0 n), B15_0_17 (K15_0 n))
def fuel15_0 (v : (List Int × Int) × List (List Int × Int)) : Nat := 4000000
def F15_0 (v : (List Int × Int) × List (List Int × Int)) : Option (List (Int × Int × List Int)) := E15_0 (K15_0 (fuel15_0 v)) v
noncomputable def k15_0 : List (Known Try.prog E) := [Known.of envOk [7, 1] [(.ros 49), .keep] v27_0 F27_0 w27_0 ok27_0, Known.of envOk [9, 7, 1, 1] [(.agg [(.ros 3), .keep]), (.ros 38), .keep, .keep] v28_0 F28_0 w28_0 ok28_0, Known.of envOk [9, 9] [(.agg [.keep, .keep, (.ros 3)]), (.agg [.keep, .keep, (.ros 3)])] v29_0 F29_0 w29_0 ok29_0]
def s15_0_17 : List (Nat × Pat) := [(1, (.ros 38)), (2, (.ptr 0 0 29 [(.ros 3), .keep])), (5, (.own 1 49)), (6, .keep), (8, .keep), (9, .keep), (11, (.ptr 2 0 49 [.keep, .keep, (.own 3 3)])), (12, .keep)]
def s15_0_11 : List (Nat × Pat) := [(1, (.ros 38)), (2, (.ptr 0 0 29 [(.ros 3), .keep])), (5, (.own 1 49)), (6, .keep), (8, .keep), (9, .keep)]
def s15_0_8 : List (Nat × Pat) := [(1, (.ros 38)), (2, (.ptr 0 0 29 [(.ros 3), .keep])), (5, (.own 1 49)), (6, .keep), (8, .keep)]
def s15_0_4 : List (Nat × Pat) := [(1, (.ros 38)), (2, (.ptr 0 0 29 [(.ros 3), .keep])), (5, (.own 1 49)), (6, .keep), (7, .keep)]
noncomputable def L15_0 (n id : Nat) (st : St G) : Option (List (Int × Int × List Int)) := match Nat.beq id 4 with | true => cutK Try.prog E s15_0_4 [] c15_0_4.dec (K15_0 n).1 st | false => match Nat.beq id 8 with | true => cutK Try.prog E s15_0_8 [] c15_0_8.dec (K15_0 n).2.1 st | false => match Nat.beq id 11 with | true => cutK Try.prog E s15_0_11 [] c15_0_11.dec (K15_0 n).2.2.1 st | false => match Nat.beq id 17 with | true => cutK Try.prog E s15_0_17 [] c15_0_17.dec (K15_0 n).2.2.2 st | false => none
set_option maxRecDepth 100000 in
theorem e15_0 (n : Nat) (v : (List Int × Int) × List (List Int × Int)) : ev Try.prog E (oracle k15_0) Try.f15.ntmps (fun x => mem x [4, 8, 11, 17]) (L15_0 n) (finF Try.prog E Try.f15.results.toList [[]] w15_0.alts) 4000 [.code (Try.f15.body.getD .skip)] (argSt (v15_0.enc v)) = E15_0 (K15_0 n) v := by kernel_rfl
set_option maxRecDepth 100000 in
theorem b15_0_4 (n : Nat) (v : ((List (List Int × Int)) × Int × Int) × (List (Int × Int × List Int)) × List Int × Int) : evCut Try.prog E (oracle k15_0) false 15 Try.f15.ntmps (fun x => mem x [4, 8, 11, 17]) (L15_0 n) (finF Try.prog E Try.f15.results.toList [[]] w15_0.alts) 4000 (todoAt (Try.f15.body.getD .skip) 4) (cutSt s15_0_4 (c15_0_4.enc v)) = B15_0_4 (K15_0 n) v := by kernel_rfl
set_option maxRecDepth 100000 in
theorem b15_0_8 (n : Nat) (v : ((List (List Int × Int)) × Int × Int) × (List (Int × Int × List Int)) × List Int × Int) : evCut Try.prog E (oracle k15_0) false 15 Try.f15.ntmps (fun x => mem x [4, 8, 11, 17]) (L15_0 n) (finF Try.prog E Try.f15.results.toList [[]] w15_0.alts) 4000 (todoAt (Try.f15.body.getD .skip) 8) (cutSt s15_0_8 (c15_0_8.enc v)) = B15_0_8 (K15_0 n) v := by kernel_rfl
set_option maxRecDepth 100000 in
theorem b15_0_11 (n : Nat) (v : ((List (List Int × Int)) × Int × Int × Int) × (List (Int × Int × List Int)) × List Int × Int) : evCut Try.prog E (oracle k15_0) false 15 Try.f15.ntmps (fun x => mem x [4, 8, 11, 17]) (L15_0 n) (finF Try.prog E Try.f15.results.toList [[]] w15_0.alts) 4000 (todoAt (Try.f15.body.getD .skip) 11) (cutSt s15_0_11 (c15_0_11.enc v)) = B15_0_11 (K15_0 n) v := by kernel_rfl
set_option maxRecDepth 100000 in
theorem b15_0_17 (n : Nat) (v : ((List (List Int × Int)) × Int × Int × Int × Int) × (Int × Int) × List Int × (List (Int × Int × List Int)) × List Int × Int) : evCut Try.prog E (oracle k15_0) false 15 Try.f15.ntmps (fun x => mem x [4, 8, 11, 17]) (L15_0 n) (finF Try.prog E Try.f15.results.toList [[]] w15_0.alts) 4000 (todoAt (Try.f15.body.getD .skip) 17) (cutSt s15_0_17 (c15_0_17.enc v)) = B15_0_17 (K15_0 n) v := by kernel_rfl
theorem ok15_0 : FnOk Try.prog E 15 v15_0.enc F15_0 w15_0.enc :=
  fn_known (fn := Try.f15) (c := (Try.f15.body.getD .skip)) Try.func15 (by kernel_rfl) rfl envOk (oracle_ok k15_0) mixed v15_0 F15_0 w15_0 [] [[]] (by kernel_rfl) [4, 8, 11, 17] 4000 L15_0 (by kernel_rfl)
    (List.forall_mem_cons.2 ⟨⟨_, [], s15_0_4, c15_0_4.dec, c15_0_4.enc, fun n => (K15_0 n).1, c15_0_4.ok, fun _ _ => rfl, fun _ => rfl, by kernel_rfl, fun n v _ h => (b15_0_4 n v).trans h⟩, List.forall_mem_cons.2 ⟨⟨_, [], s15_0_8, c15_0_8.dec, c15_0_8.enc, fun n => (K15_0 n).2.1, c15_0_8.ok, fun _ _ => rfl, fun _ => rfl, by kernel_rfl, fun n v _ h => (b15_0_8 n v).trans h⟩, List.forall_mem_cons.2 ⟨⟨_, [], s15_0_11, c15_0_11.dec, c15_0_11.enc, fun n => (K15_0 n).2.2.1, c15_0_11.ok, fun _ _ => rfl, fun _ => rfl, by kernel_rfl, fun n v _ h => (b15_0_11 n v).trans h⟩, List.forall_mem_cons.2 ⟨⟨_, [], s15_0_17, c15_0_17.dec, c15_0_17.enc, fun n => (K15_0 n).2.2.2, c15_0_17.ok, fun _ _ => rfl, fun _ => rfl, by kernel_rfl, fun n v _ h => (b15_0_17 n v).trans h⟩, fun _ h => (nomatch h)⟩⟩⟩⟩) (fun v _ h => ⟨fuel15_0 v, (e15_0 _ v).trans h⟩) (fun _ => by kernel_rfl) (fun _ => by kernel_rfl) (fun _ _ => by kernel_rfl)
/- chicane/chicaneref48.Table -/
abbrev A15_1 : Type := (List Int × Int) × List (List Int × Int)
abbrev R15_1 : Type := (List (Int × Int × List Int)) × List (List Int × Int)
def v15_1 : Pk G ((List Int × Int) × List (List Int × Int)) := (pk (Sh.fst (Sh.cons (Sh.agg (Sh.cons (Sh.ros 3) (Sh.fst (Sh.cons (Sh.int .i64) Sh.nil)))) (Sh.snd (Sh.cons (Sh.osl 0) Sh.nil)))) (Sh.fst (Sh.hrow 0 38 Sh.hnil)))
def w15_1 : Wk G ((List (Int × Int × List Int)) × List (List Int × Int)) := (Wk.one [(.own 1 49)] (Pk.snd (pk (Sh.snd (Sh.cons (Sh.osl 1) Sh.nil)) (Sh.hrow 1 49 (Sh.fst (Sh.hrow 0 38 Sh.hnil))))))
def c15_1_4 : Pk G ((Int × Int) × (List (Int × Int × List Int)) × (List Int × Int) × List (List Int × Int)) := (pk (Sh.snd (Sh.cons (Sh.osl 0) (Sh.snd (Sh.cons (Sh.ptr 1 0) (Sh.snd (Sh.cons (Sh.osl 2) (Sh.cons (Sh.int .i64) (Sh.fst (Sh.cons (Sh.int .i64) Sh.nil))))))))) (Sh.hrow 2 49 (Sh.hfix 1 29 (Sh.cons (Sh.ros 3) (Sh.fst (Sh.cons (Sh.int .i64) Sh.nil))) (Sh.fst (Sh.hrow 0 38 Sh.hnil)))))
def c15_1_8 : Pk G ((Int × Int) × (List (Int × Int × List Int)) × (List Int × Int) × List (List Int × Int)) := (pk (Sh.snd (Sh.cons (Sh.osl 0) (Sh.snd (Sh.cons (Sh.ptr 1 0) (Sh.snd (Sh.cons (Sh.osl 2) (Sh.cons (Sh.int .i64) (Sh.fst (Sh.cons (Sh.int .i64) Sh.nil))))))))) (Sh.hrow 2 49 (Sh.hfix 1 29 (Sh.cons (Sh.ros 3) (Sh.fst (Sh.cons (Sh.int .i64) Sh.nil))) (Sh.fst (Sh.hrow 0 38 Sh.hnil)))))
def c15_1_11 : Pk G ((Int × Int × Int) × (List (Int × Int × List Int)) × (List Int × Int) × List (List Int × Int)) := (pk (Sh.snd (Sh.cons (Sh.osl 0) (Sh.snd (Sh.cons (Sh.ptr 1 0) (Sh.snd (Sh.cons (Sh.osl 2) (Sh.cons (Sh.int .i64) (Sh.cons (Sh.int .i64) (Sh.fst (Sh.cons (Sh.int .i64) Sh.nil)))))))))) (Sh.hrow 2 49 (Sh.hfix 1 29 (Sh.cons (Sh.ros 3) (Sh.fst (Sh.cons (Sh.int .i64) Sh.nil))) (Sh.fst (Sh.hrow 0 38 Sh.hnil)))))
def c15_1_17 : Pk G ((Int × Int × Int × Int) × (Int × Int) × List Int × (List (Int × Int × List Int)) × (List Int × Int) × List (List Int × Int)) := (pk (Sh.snd (Sh.cons (Sh.osl 0) (Sh.snd (Sh.cons (Sh.ptr 1 0) (Sh.snd (Sh.cons (Sh.osl 2) (Sh.cons (Sh.int .i64) (Sh.cons (Sh.int .i64) (Sh.cons (Sh.int .i64) (Sh.snd (Sh.cons (Sh.ptr 3 0) (Sh.fst (Sh.cons (Sh.int .i64) Sh.nil))))))))))))) (Sh.hfix 3 49 (Sh.cons (Sh.int .i64) (Sh.fst (Sh.cons (Sh.int .i64) (Sh.snd (Sh.cons (Sh.osl 4) Sh.nil))))) (Sh.hrow 4 3 (Sh.hrow 2 49 (Sh.hfix 1 29 (Sh.cons (Sh.ros 3) (Sh.fst (Sh.cons (Sh.int .i64) Sh.nil))) (Sh.fst (Sh.hrow 0 38 Sh.hnil)))))))
def B15_1_4 (K : (((Int × Int) × (List (Int × Int × List Int)) × (List Int × Int) × List (List Int × Int)) → Option ((List (Int × Int × List Int)) × List (List Int × Int))) × (((Int × Int) × (List (Int × Int × List Int)) × (List Int × Int) × List (List Int × Int)) → Option ((List (Int × Int × List Int)) × List (List Int × Int))) × (((Int × Int × Int) × (List (Int × Int × List Int)) × (List Int × Int) × List (List Int × Int)) → Option ((List (Int × Int × List Int)) × List (List Int × Int))) × (((Int × Int × Int × Int) × (Int × Int) × List Int × (List (Int × Int × List Int)) × (List Int × Int) × List (List Int × Int)) → Option ((List (Int × Int × List Int)) × List (List Int × Int)))) (v : (Int × Int) × (List (Int × Int × List Int)) × (List Int × Int) × List (List Int × Int)) : Option ((List (Int × Int × List Int)) × List (List Int × Int)) :=
  bif (decide (v.1.2 < ((v.2.2.2).length : Int))) then
    (idx v.1.2 (v.2.2.2).length).bind fun (x1015 : Nat) =>
    ((v.2.2.2)[x1015]?).bind fun (x1016 : List Int × Int) =>
    let x1017 : Int := (if ((x1016.1).length : Int) > v.1.1 then ((x1016.1).length : Int) else v.1.1)
    let x1018 : Int := (IntKind.wrap .i64 (v.1.2 + (1 : Int)))
    K.1 ((x1017, x1018), v.2)
  else
    K.2.1 ((v.1.1, (0 : Int)), v.2)

def B15_1_8 (K : (((Int × Int) × (List (Int × Int × List Int)) × (List Int × Int) × List (List Int × Int)) → Option ((List (Int × Int × List Int)) × List (List Int × Int))) × (((Int × Int) × (List (Int × Int × List Int)) × (List Int × Int) × List (List Int × Int)) → Option ((List (Int × Int × List Int)) × List (List Int × Int))) × (((Int × Int × Int) × (List (Int × Int × List Int)) × (List Int × Int) × List (List Int × Int)) → Option ((List (Int × Int × List Int)) × List (List Int × Int))) × (((Int × Int × Int × Int) × (Int × Int) × List Int × (List (Int × Int × List Int)) × (List Int × Int) × List (List Int × Int)) → Option ((List (Int × Int × List Int)) × List (List Int × Int)))) (v : (Int × Int) × (List (Int × Int × List Int)) × (List Int × Int) × List (List Int × Int)) : Option ((List (Int × Int × List Int)) × List (List Int × Int)) :=
  bif (decide (v.1.2 < ((v.2.2.2).length : Int))) then
    K.2.2.1 ((v.1.1, (v.1.2, (0 : Int))), v.2)
  else
    some (v.2.1, v.2.2.2)

def B15_1_11 (K : (((Int × Int) × (List (Int × Int × List Int)) × (List Int × Int) × List (List Int × Int)) → Option ((List (Int × Int × List Int)) × List (List Int × Int))) × (((Int × Int) × (List (Int × Int × List Int)) × (List Int × Int) × List (List Int × Int)) → Option ((List (Int × Int × List Int)) × List (List Int × Int))) × (((Int × Int × Int) × (List (Int × Int × List Int)) × (List Int × Int) × List (List Int × Int)) → Option ((List (Int × Int × List Int)) × List (List Int × Int))) × (((Int × Int × Int × Int) × (Int × Int) × List Int × (List (Int × Int × List Int)) × (List Int × Int) × List (List Int × Int)) → Option ((List (Int × Int × List Int)) × List (List Int × Int)))) (v : (Int × Int × Int) × (List (Int × Int × List Int)) × (List Int × Int) × List (List Int × Int)) : Option ((List (Int × Int × List Int)) × List (List Int × Int)) :=
  (idx v.1.2.1 (v.2.2.2).length).bind fun (x1019 : Nat) =>
  ((v.2.2.2)[x1019]?).bind fun (x1020 : List Int × Int) =>
  bif (decide (v.1.2.2 < ((x1020.1).length : Int))) then
    (idx v.1.2.1 (v.2.2.2).length).bind fun (x1021 : Nat) =>
    ((v.2.2.2)[x1021]?).bind fun (x1022 : List Int × Int) =>
    (rdx x1022.1 v.1.2.2).bind fun (x1023 : Int) =>
    (F27_0 (v.2.1, x1023)).bind fun r1024 =>
    bif r1024 then
      let x1025 : Int := (IntKind.wrap .i64 (v.1.2.2 + (1 : Int)))
      K.2.2.1 ((v.1.1, (v.1.2.1, x1025)), v.2)
    else
      (F28_0 (v.2.2.1, (v.2.2.2, (x1023, v.1.1)))).bind fun r1026 =>
      K.2.2.2 ((v.1.1, (v.1.2.1, (v.1.2.2, ((v.2.1).length : Int)))), (r1026.1, (r1026.2, v.2)))
  else
    let x1027 : Int := (IntKind.wrap .i64 (v.1.2.1 + (1 : Int)))
    K.2.1 ((v.1.1, x1027), v.2)

def B15_1_17 (K : (((Int × Int) × (List (Int × Int × List Int)) × (List Int × Int) × List (List Int × Int)) → Option ((List (Int × Int × List Int)) × List (List Int × Int))) × (((Int × Int) × (List (Int × Int × List Int)) × (List Int × Int) × List (List Int × Int)) → Option ((List (Int × Int × List Int)) × List (List Int × Int))) × (((Int × Int × Int) × (List (Int × Int × List Int)) × (List Int × Int) × List (List Int × Int)) → Option ((List (Int × Int × List Int)) × List (List Int × Int))) × (((Int × Int × Int × Int) × (Int × Int) × List Int × (List (Int × Int × List Int)) × (List Int × Int) × List (List Int × Int)) → Option ((List (Int × Int × List Int)) × List (List Int × Int)))) (v : (Int × Int × Int × Int) × (Int × Int) × List Int × (List (Int × Int × List Int)) × (List Int × Int) × List (List Int × Int)) : Option ((List (Int × Int × List Int)) × List (List Int × Int)) :=
  bif (decide (v.1.2.2.2 > (0 : Int))) then
    let x1028 : Int := (IntKind.wrap .i64 (v.1.2.2.2 - (1 : Int)))
    (idx x1028 (v.2.2.2.1).length).bind fun (x1029 : Nat) =>
    ((v.2.2.2.1)[x1029]?).bind fun (x1030 : Int × Int × List Int) =>
    (F29_0 ((v.2.1.1, (v.2.1.2, v.2.2.1)), x1030)).bind fun r1031 =>
    bif r1031 then
      let x1032 : Int := (IntKind.wrap .i64 (v.1.2.2.2 - (1 : Int)))
      K.2.2.2 ((v.1.1, (v.1.2.1, (v.1.2.2.1, x1032))), v.2)
    else
      (cutn (0 : Int) v.1.2.2.2 ((v.2.2.2.1).length : Int)).bind fun (x1033 : Nat × Nat) =>
      (chk (decide (((([] : List (Int × Int × List Int))).length + ((((v.2.2.2.1).drop x1033.1).take x1033.2)).length) * 40 ≤ 140737488355328))).bind fun _ =>
      let x1034 : List (Int × Int × List Int) := (([] : List (Int × Int × List Int)) ++ (((v.2.2.2.1).drop x1033.1).take x1033.2))
      (chk (decide (((x1034).length + (([(v.2.1.1, (v.2.1.2, v.2.2.1))] : List (Int × Int × List Int))).length) * 40 ≤ 140737488355328))).bind fun _ =>
      let x1035 : List (Int × Int × List Int) := (x1034 ++ ([(v.2.1.1, (v.2.1.2, v.2.2.1))] : List (Int × Int × List Int)))
      (cutn v.1.2.2.2 ((v.2.2.2.1).length : Int) ((v.2.2.2.1).length : Int)).bind fun (x1036 : Nat × Nat) =>
      (chk (decide (((x1035).length + ((((v.2.2.2.1).drop x1036.1).take x1036.2)).length) * 40 ≤ 140737488355328))).bind fun _ =>
      let x1037 : List (Int × Int × List Int) := (x1035 ++ (((v.2.2.2.1).drop x1036.1).take x1036.2))
      let x1038 : Int := (IntKind.wrap .i64 (v.1.2.2.1 + (1 : Int)))
      K.2.2.1 ((v.1.1, (v.1.2.1, x1038)), (x1037, v.2.2.2.2))
  else
    (cutn (0 : Int) v.1.2.2.2 ((v.2.2.2.1).length : Int)).bind fun (x1039 : Nat × Nat) =>
    (chk (decide (((([] : List (Int × Int × List Int))).length + ((((v.2.2.2.1).drop x1039.1).take x1039.2)).length) * 40 ≤ 140737488355328))).bind fun _ =>
    let x1040 : List (Int × Int × List Int) := (([] : List (Int × Int × List Int)) ++ (((v.2.2.2.1).drop x1039.1).take x1039.2))
    (chk (decide (((x1040).length + (([(v.2.1.1, (v.2.1.2, v.2.2.1))] : List (Int × Int × List Int))).length) * 40 ≤ 140737488355328))).bind fun _ =>
    let x1041 : List (Int × Int × List Int) := (x1040 ++ ([(v.2.1.1, (v.2.1.2, v.2.2.1))] : List (Int × Int × List Int)))
    (cutn v.1.2.2.2 ((v.2.2.2.1).length : Int) ((v.2.2.2.1).length : Int)).bind fun (x1042 : Nat × Nat) =>
    (chk (decide (((x1041).length + ((((v.2.2.2.1).drop x1042.1).take x1042.2)).length) * 40 ≤ 140737488355328))).bind fun _ =>
    let x1043 : List (Int × Int × List Int) := (x1041 ++ (((v.2.2.2.1).drop x1042.1).take x1042.2))
    let x1044 : Int := (IntKind.wrap .i64 (v.1.2.2.1 + (1 : Int)))
    K.2.2.1 ((v.1.1, (v.1.2.1, x1044)), (x1043, v.2.2.2.2))

def E15_1 (K : (((Int × Int) × (List (Int × Int × List Int)) × (List Int × Int) × List (List Int × Int)) → Option ((List (Int × Int × List Int)) × List (List Int × Int))) × (((Int × Int) × (List (Int × Int × List Int)) × (List Int × Int) × List (List Int × Int)) → Option ((List (Int × Int × List Int)) × List (List Int × Int))) × (((Int × Int × Int) × (List (Int × Int × List Int)) × (List Int × Int) × List (List Int × Int)) → Option ((List (Int × Int × List Int)) × List (List Int × Int))) × (((Int × Int × Int × Int) × (Int × Int) × List Int × (List (Int × Int × List Int)) × (List Int × Int) × List (List Int × Int)) → Option ((List (Int × Int × List Int)) × List (List Int × Int)))) (v : (List Int × Int) × List (List Int × Int)) : Option ((List (Int × Int × List Int)) × List (List Int × Int)) :=
  K.1 (((0 : Int), (0 : Int)), (([] : List (Int × Int × List Int)), v))

def K15_1 : Nat → (((Int × Int) × (List (Int × Int × List Int)) × (List Int × Int) × List (List Int × Int)) → Option ((List (Int × Int × List Int)) × List (List Int × Int))) × (((Int × Int) × (List (Int × Int × List Int)) × (List Int × Int) × List (List Int × Int)) → Option ((List (Int × Int × List Int)) × List (List Int × Int))) × (((Int × Int × Int) × (List (Int × Int × List Int)) × (List Int × Int) × List (List Int × Int)) → Option ((List (Int × Int × List Int)) × List (List Int × Int))) × (((Int × Int × Int × Int) × (Int × Int) × List Int × (List (Int × Int × List Int)) × (List Int × Int) × List (List Int × Int)) → Option ((List (Int × Int × List Int)) × List (List Int × Int)))
  | 0 => (fun _ => none, fun _ => none, fun _ => none, fun _ => none)
  | n + 1 => (B15_1_4 (K15_1 n), B15_1_8 (K15_1 n), B15_1_11 (K15_1 n), B15_1_17 (K15_1 n))
def fuel15_1 (v : (List Int × Int) × List (List Int × Int)) : Nat := 4000000
def F15_1 (v : (List Int × Int) × List (List Int × Int)) : Option ((List (Int × Int × List Int)) × List (List Int × Int)) := E15_1 (K15_1 (fuel15_1 v)) v
noncomputable def k15_1 : List (Known Try.prog E) := [Known.of envOk [7, 1] [(.ros 49), .keep] v27_0 F27_0 w27_0 ok27_0, Known.of envOk [9, 7, 1, 1] [(.agg [(.ros 3), .keep]), (.ros 38), .keep, .keep] v28_0 F28_0 w28_0 ok28_0, Known.of envOk [9, 9] [(.agg [.keep, .keep, (.ros 3)]), (.agg [.keep, .keep, (.ros 3)])] v29_0 F29_0 w29_0 ok29_0]
def s15_1_17 : List (Nat × Pat) := [(1, (.own 0 38)), (2, (.ptr 1 0 29 [(.ros 3), .keep])), (5, (.own 2 49)), (6, .keep), (8, .keep), (9, .keep), (11, (.ptr 3 0 49 [.keep, .keep, (.own 4 3)])), (12, .keep)]
def s15_1_11 : List (Nat × Pat) := [(1, (.own 0 38)), (2, (.ptr 1 0 29 [(.ros 3), .keep])), (5, (.own 2 49)), (6, .keep), (8, .keep), (9, .keep)]
def s15_1_8 : List (Nat × Pat) := [(1, (.own 0 38)), (2, (.ptr 1 0 29 [(.ros 3), .keep])), (5, (.own 2 49)), (6, .keep), (8, .keep)]
def s15_1_4 : List (Nat × Pat) := [(1, (.own 0 38)), (2, (.ptr 1 0 29 [(.ros 3), .keep])), (5, (.own 2 49)), (6, .keep), (7, .keep)]
noncomputable def L15_1 (n id : Nat) (st : St G) : Option ((List (Int × Int × List Int)) × List (List Int × Int)) := match Nat.beq id 4 with | true => cutK Try.prog E s15_1_4 [(.own 0 38)] c15_1_4.dec (K15_1 n).1 st | false => match Nat.beq id 8 with | true => cutK Try.prog E s15_1_8 [(.own 0 38)] c15_1_8.dec (K15_1 n).2.1 st | false => match Nat.beq id 11 with | true => cutK Try.prog E s15_1_11 [(.own 0 38)] c15_1_11.dec (K15_1 n).2.2.1 st | false => match Nat.beq id 17 with | true => cutK Try.prog E s15_1_17 [(.own 0 38)] c15_1_17.dec (K15_1 n).2.2.2 st | false => none
set_option maxRecDepth 100000 in
theorem e15_1 (n : Nat) (v : (List Int × Int) × List (List Int × Int)) : ev Try.prog E (oracle k15_1) Try.f15.ntmps (fun x => mem x [4, 8, 11, 17]) (L15_1 n) (finF Try.prog E Try.f15.results.toList [[(.own 0 38)]] w15_1.alts) 4000 [.code (Try.f15.body.getD .skip)] (argSt (v15_1.enc v)) = E15_1 (K15_1 n) v := by kernel_rfl
set_option maxRecDepth 100000 in
theorem b15_1_4 (n : Nat) (v : (Int × Int) × (List (Int × Int × List Int)) × (List Int × Int) × List (List Int × Int)) : evCut Try.prog E (oracle k15_1) false 15 Try.f15.ntmps (fun x => mem x [4, 8, 11, 17]) (L15_1 n) (finF Try.prog E Try.f15.results.toList [[(.own 0 38)]] w15_1.alts) 4000 (todoAt (Try.f15.body.getD .skip) 4) (cutSt s15_1_4 (c15_1_4.enc v)) = B15_1_4 (K15_1 n) v := by kernel_rfl
set_option maxRecDepth 100000 in
theorem b15_1_8 (n : Nat) (v : (Int × Int) × (List (Int × Int × List Int)) × (List Int × Int) × List (List Int × Int)) : evCut Try.prog E (oracle k15_1) false 15 Try.f15.ntmps (fun x => mem x [4, 8, 11, 17]) (L15_1 n) (finF Try.prog E Try.f15.results.toList [[(.own 0 38)]] w15_1.alts) 4000 (todoAt (Try.f15.body.getD .skip) 8) (cutSt s15_1_8 (c15_1_8.enc v)) = B15_1_8 (K15_1 n) v := by kernel_rfl
set_option maxRecDepth 100000 in
theorem b15_1_11 (n : Nat) (v : (Int × Int × Int) × (List (Int × Int × List Int)) × (List Int × Int) × List (List Int × Int)) : evCut Try.prog E (oracle k15_1) false 15 Try.f15.ntmps (fun x => mem x [4, 8, 11, 17]) (L15_1 n) (finF Try.prog E Try.f15.results.toList [[(.own 0 38)]] w15_1.alts) 4000 (todoAt (Try.f15.body.getD .skip) 11) (cutSt s15_1_11 (c15_1_11.enc v)) = B15_1_11 (K15_1 n) v := by kernel_rfl
set_option maxRecDepth 100000 in
theorem b15_1_17 (n : Nat) (v : (Int × Int × Int × Int) × (Int × Int) × List Int × (List (Int × Int × List Int)) × (List Int × Int) × List (List Int × Int)) : evCut Try.prog E (oracle k15_1) false 15 Try.f15.ntmps (fun x => mem x [4, 8, 11, 17]) (L15_1 n) (finF Try.prog E Try.f15.results.toList [[(.own 0 38)]] w15_1.alts) 4000 (todoAt (Try.f15.body.getD .skip) 17) (cutSt s15_1_17 (c15_1_17.enc v)) = B15_1_17 (K15_1 n) v := by kernel_rfl
theorem ok15_1 : FnOk Try.prog E 15 v15_1.enc F15_1 w15_1.enc :=
  fn_known (fn := Try.f15) (c := (Try.f15.body.getD .skip)) Try.func15 (by kernel_rfl) rfl envOk (oracle_ok k15_1) mixed v15_1 F15_1 w15_1 [(.own 0 38)] [[(.own 0 38)]] (by kernel_rfl) [4, 8, 11, 17] 4000 L15_1 (by kernel_rfl)
    (List.forall_mem_cons.2 ⟨⟨_, [(.own 0 38)], s15_1_4, c15_1_4.dec, c15_1_4.enc, fun n => (K15_1 n).1, c15_1_4.ok, fun _ _ => rfl, fun _ => rfl, by kernel_rfl, fun n v _ h => (b15_1_4 n v).trans h⟩, List.forall_mem_cons.2 ⟨⟨_, [(.own 0 38)], s15_1_8, c15_1_8.dec, c15_1_8.enc, fun n => (K15_1 n).2.1, c15_1_8.ok, fun _ _ => rfl, fun _ => rfl, by kernel_rfl, fun n v _ h => (b15_1_8 n v).trans h⟩, List.forall_mem_cons.2 ⟨⟨_, [(.own 0 38)], s15_1_11, c15_1_11.dec, c15_1_11.enc, fun n => (K15_1 n).2.2.1, c15_1_11.ok, fun _ _ => rfl, fun _ => rfl, by kernel_rfl, fun n v _ h => (b15_1_11 n v).trans h⟩, List.forall_mem_cons.2 ⟨⟨_, [(.own 0 38)], s15_1_17, c15_1_17.dec, c15_1_17.enc, fun n => (K15_1 n).2.2.2, c15_1_17.ok, fun _ _ => rfl, fun _ => rfl, by kernel_rfl, fun n v _ h => (b15_1_17 n v).trans h⟩, fun _ h => (nomatch h)⟩⟩⟩⟩) (fun v _ h => ⟨fuel15_1 v, (e15_1 _ v).trans h⟩) (fun _ => by kernel_rfl) (fun _ => by kernel_rfl) (fun _ _ => by kernel_rfl)
/- chicane/chicaneref48.Sure -/
abbrev A17_0 : Type := (List Int × Int) × (List (List Int × Int)) × Int
abbrev R17_0 : Type := Bool
def v17_0 : Pk G ((List Int × Int) × (List (List Int × Int)) × Int) := (Pk.fst (pk (Sh.cons (Sh.agg (Sh.cons (Sh.ros 3) (Sh.fst (Sh.cons (Sh.int .i64) Sh.nil)))) (Sh.cons (Sh.ros 38) (Sh.fst (Sh.cons (Sh.int .i64) Sh.nil)))) Sh.hnil))
def w17_0 : Wk G Bool := (Wk.one [.keep] (Pk.fst (pk (Sh.fst (Sh.cons Sh.bool Sh.nil)) Sh.hnil)))
def c17_0_6 : Pk G ((Int × Int × Int) × (List (Int × Int × List Int)) × List Int × Int) := (pk (Sh.cons (Sh.int .i64) (Sh.snd (Sh.cons (Sh.ptr 0 0) (Sh.snd (Sh.cons (Sh.osl 1) (Sh.cons (Sh.int .i64) (Sh.fst (Sh.cons (Sh.int .i64) Sh.nil)))))))) (Sh.hrow 1 49 (Sh.fst (Sh.hfix 0 29 (Sh.cons (Sh.ros 3) (Sh.fst (Sh.cons (Sh.int .i64) Sh.nil))) Sh.hnil))))
def c17_0_11 : Pk G ((Int × Int × Int) × List Int × (List (Int × Int × List Int)) × List Int × Int) := (pk (Sh.cons (Sh.int .i64) (Sh.snd (Sh.cons (Sh.ptr 0 0) (Sh.snd (Sh.cons (Sh.osl 1) (Sh.cons (Sh.int .i64) (Sh.snd (Sh.cons (Sh.osl 2) (Sh.fst (Sh.cons (Sh.int .i64) Sh.nil)))))))))) (Sh.hrow 2 3 (Sh.hrow 1 49 (Sh.fst (Sh.hfix 0 29 (Sh.cons (Sh.ros 3) (Sh.fst (Sh.cons (Sh.int .i64) Sh.nil))) Sh.hnil)))))
def c17_0_15 : Pk G ((Int × Int × Int) × List Int × (List (Int × Int × List Int)) × List Int × Int) := (pk (Sh.cons (Sh.int .i64) (Sh.snd (Sh.cons (Sh.ptr 0 0) (Sh.snd (Sh.cons (Sh.osl 1) (Sh.cons (Sh.int .i64) (Sh.snd (Sh.cons (Sh.osl 2) (Sh.fst (Sh.cons (Sh.int .i64) Sh.nil)))))))))) (Sh.hrow 2 3 (Sh.hrow 1 49 (Sh.fst (Sh.hfix 0 29 (Sh.cons (Sh.ros 3) (Sh.fst (Sh.cons (Sh.int .i64) Sh.nil))) Sh.hnil)))))
def B17_0_6 (K : (((Int × Int × Int) × (List (Int × Int × List Int)) × List Int × Int) → Option Bool) × (((Int × Int × Int) × List Int × (List (Int × Int × List Int)) × List Int × Int) → Option Bool) × (((Int × Int × Int) × List Int × (List (Int × Int × List Int)) × List Int × Int) → Option Bool)) (v : (Int × Int × Int) × (List (Int × Int × List Int)) × List Int × Int) : Option Bool :=
  bif (decide (v.1.2.2 < ((v.2.2.1).length : Int))) then
    (rdx v.2.2.1 v.1.2.2).bind fun (x1149 : Int) =>
    let x1150 : Int := (if x1149 > v.1.2.1 then x1149 else v.1.2.1)
    let x1151 : Int := (IntKind.wrap .i64 (v.1.2.2 + (1 : Int)))
    K.1 ((v.1.1, (x1150, x1151)), v.2)
  else
    K.2.1 ((v.1.1, (v.1.2.1, (1 : Int))), (([(0 : Int)] : List Int), v.2))

def B17_0_11 (K : (((Int × Int × Int) × (List (Int × Int × List Int)) × List Int × Int) → Option Bool) × (((Int × Int × Int) × List Int × (List (Int × Int × List Int)) × List Int × Int) → Option Bool) × (((Int × Int × Int) × List Int × (List (Int × Int × List Int)) × List Int × Int) → Option Bool)) (v : (Int × Int × Int) × List Int × (List (Int × Int × List Int)) × List Int × Int) : Option Bool :=
  bif (decide (v.1.2.2 < ((v.2.2.1).length : Int))) then
    (idx v.1.2.2 (v.2.2.1).length).bind fun (x1152 : Nat) =>
    ((v.2.2.1)[x1152]?).bind fun (x1153 : Int × Int × List Int) =>
    (chk (decide (((v.2.1).length + (([x1153.2.1] : List Int)).length) * 8 ≤ 140737488355328))).bind fun _ =>
    let x1154 : List Int := (v.2.1 ++ ([x1153.2.1] : List Int))
    let x1155 : Int := (IntKind.wrap .i64 (v.1.2.2 + (1 : Int)))
    K.2.1 ((v.1.1, (v.1.2.1, x1155)), (x1154, v.2.2))
  else
    K.2.2 ((v.1.1, (v.1.2.1, (0 : Int))), v.2)

def B17_0_15 (K : (((Int × Int × Int) × (List (Int × Int × List Int)) × List Int × Int) → Option Bool) × (((Int × Int × Int) × List Int × (List (Int × Int × List Int)) × List Int × Int) → Option Bool) × (((Int × Int × Int) × List Int × (List (Int × Int × List Int)) × List Int × Int) → Option Bool)) (v : (Int × Int × Int) × List Int × (List (Int × Int × List Int)) × List Int × Int) : Option Bool :=
  bif (decide (v.1.2.2 < ((v.2.1).length : Int))) then
    (idx (0 : Int) (v.2.2.1).length).bind fun (x1156 : Nat) =>
    ((v.2.2.1)[x1156]?).bind fun (x1157 : Int × Int × List Int) =>
    (idx v.1.2.2 (v.2.1).length).bind fun (x1158 : Nat) =>
    ((v.2.1)[x1158]?).bind fun (x1159 : Int) =>
    let x1160 : Int := (IntKind.wrap .i64 (v.1.2.1 + v.2.2.2.2))
    let x1161 : Int := (IntKind.wrap .i64 (v.1.1 * x1160))
    let x1162 : Int := (IntKind.wrap .i64 (x1159 + x1161))
    bif (decide (x1157.2.1 ≤ x1162)) then
      some (false)
    else
      let x1163 : Int := (IntKind.wrap .i64 (v.1.2.2 + (1 : Int)))
      K.2.2 ((v.1.1, (v.1.2.1, x1163)), v.2)
  else
    some (true)

def E17_0 (K : (((Int × Int × Int) × (List (Int × Int × List Int)) × List Int × Int) → Option Bool) × (((Int × Int × Int) × List Int × (List (Int × Int × List Int)) × List Int × Int) → Option Bool) × (((Int × Int × Int) × List Int × (List (Int × Int × List Int)) × List Int × Int) → Option Bool)) (v : (List Int × Int) × (List (List Int × Int)) × Int) : Option Bool :=
  (F15_0 (v.1, v.2.1)).bind fun r1147 =>
  bif (((r1147).length : Int) == (0 : Int)) then
    some (false)
  else
    bif (decide (v.2.2 < (0 : Int))) then
      some (false)
    else
      bif (decide (v.2.2 > (1000 : Int))) then
        some (false)
      else
        (F10_0 v.1).bind fun r1148 =>
        bif (r1148 != (0 : Int)) then
          some (false)
        else
          K.1 ((v.2.2, ((0 : Int), (0 : Int))), (r1147, v.1))

def K17_0 : Nat → (((Int × Int × Int) × (List (Int × Int × List Int)) × List Int × Int) → Option Bool) × (((Int × Int × Int) × List Int × (List (Int × Int × List Int)) × List Int × Int) → Option Bool) × (((Int × Int × Int) × List Int × (List (Int × Int × List Int)) × List Int × Int) → Option Bool)
  | 0 => (fun _ => none, fun _ => none, fun _ => none)
  | n + 1 => (B17_0_6 (K17_0 n), B17_0_11 (K17_0 n), B17_0_15 (K17_0 n))
def fuel17_0 (v : (List Int × Int) × (List (List Int × Int)) × Int) : Nat := 20000
def F17_0 (v : (List Int × Int) × (List (List Int × Int)) × Int) : Option Bool := E17_0 (K17_0 (fuel17_0 v)) v
noncomputable def k17_0 : List (Known Try.prog E) := [Known.of envOk [9, 7] [(.agg [(.ros 3), .keep]), (.ros 38)] v15_0 F15_0 w15_0 ok15_0, Known.of envOk [9] [(.agg [(.ros 3), .keep])] v10_0 F10_0 w10_0 ok10_0]
def s17_0_15 : List (Nat × Pat) := [(2, .keep), (3, (.ptr 0 0 29 [(.ros 3), .keep])), (7, (.own 1 49)), (8, .keep), (10, (.own 2 3)), (12, .keep)]
def s17_0_11 : List (Nat × Pat) := [(2, .keep), (3, (.ptr 0 0 29 [(.ros 3), .keep])), (7, (.own 1 49)), (8, .keep), (10, (.own 2 3)), (11, .keep)]
def s17_0_6 : List (Nat × Pat) := [(2, .keep), (3, (.ptr 0 0 29 [(.ros 3), .keep])), (7, (.own 1 49)), (8, .keep), (9, .keep)]
noncomputable def L17_0 (n id : Nat) (st : St G) : Option Bool := match Nat.beq id 6 with | true => cutK Try.prog E s17_0_6 [] c17_0_6.dec (K17_0 n).1 st | false => match Nat.beq id 11 with | true => cutK Try.prog E s17_0_11 [] c17_0_11.dec (K17_0 n).2.1 st | false => match Nat.beq id 15 with | true => cutK Try.prog E s17_0_15 [] c17_0_15.dec (K17_0 n).2.2 st | false => none
set_option maxRecDepth 100000 in
theorem e17_0 (n : Nat) (v : (List Int × Int) × (List (List Int × Int)) × Int) : ev Try.prog E (oracle k17_0) Try.f17.ntmps (fun x => mem x [6, 11, 15]) (L17_0 n) (finF Try.prog E Try.f17.results.toList [[]] w17_0.alts) 4000 [.code (Try.f17.body.getD .skip)] (argSt (v17_0.enc v)) = E17_0 (K17_0 n) v := by kernel_rfl
set_option maxRecDepth 100000 in
theorem b17_0_6 (n : Nat) (v : (Int × Int × Int) × (List (Int × Int × List Int)) × List Int × Int) : evCut Try.prog E (oracle k17_0) false 17 Try.f17.ntmps (fun x => mem x [6, 11, 15]) (L17_0 n) (finF Try.prog E Try.f17.results.toList [[]] w17_0.alts) 4000 (todoAt (Try.f17.body.getD .skip) 6) (cutSt s17_0_6 (c17_0_6.enc v)) = B17_0_6 (K17_0 n) v := by kernel_rfl
set_option maxRecDepth 100000 in
theorem b17_0_11 (n : Nat) (v : (Int × Int × Int) × List Int × (List (Int × Int × List Int)) × List Int × Int) : evCut Try.prog E (oracle k17_0) false 17 Try.f17.ntmps (fun x => mem x [6, 11, 15]) (L17_0 n) (finF Try.prog E Try.f17.results.toList [[]] w17_0.alts) 4000 (todoAt (Try.f17.body.getD .skip) 11) (cutSt s17_0_11 (c17_0_11.enc v)) = B17_0_11 (K17_0 n) v := by kernel_rfl
set_option maxRecDepth 100000 in
theorem b17_0_15 (n : Nat) (v : (Int × Int × Int) × List Int × (List (Int × Int × List Int)) × List Int × Int) : evCut Try.prog E (oracle k17_0) false 17 Try.f17.ntmps (fun x => mem x [6, 11, 15]) (L17_0 n) (finF Try.prog E Try.f17.results.toList [[]] w17_0.alts) 4000 (todoAt (Try.f17.body.getD .skip) 15) (cutSt s17_0_15 (c17_0_15.enc v)) = B17_0_15 (K17_0 n) v := by kernel_rfl
theorem ok17_0 : FnOk Try.prog E 17 v17_0.enc F17_0 w17_0.enc :=
  fn_known (fn := Try.f17) (c := (Try.f17.body.getD .skip)) Try.func17 (by kernel_rfl) rfl envOk (oracle_ok k17_0) mixed v17_0 F17_0 w17_0 [] [[]] (by kernel_rfl) [6, 11, 15] 4000 L17_0 (by kernel_rfl)
    (List.forall_mem_cons.2 ⟨⟨_, [], s17_0_6, c17_0_6.dec, c17_0_6.enc, fun n => (K17_0 n).1, c17_0_6.ok, fun _ _ => rfl, fun _ => rfl, by kernel_rfl, fun n v _ h => (b17_0_6 n v).trans h⟩, List.forall_mem_cons.2 ⟨⟨_, [], s17_0_11, c17_0_11.dec, c17_0_11.enc, fun n => (K17_0 n).2.1, c17_0_11.ok, fun _ _ => rfl, fun _ => rfl, by kernel_rfl, fun n v _ h => (b17_0_11 n v).trans h⟩, List.forall_mem_cons.2 ⟨⟨_, [], s17_0_15, c17_0_15.dec, c17_0_15.enc, fun n => (K17_0 n).2.2, c17_0_15.ok, fun _ _ => rfl, fun _ => rfl, by kernel_rfl, fun n v _ h => (b17_0_15 n v).trans h⟩, fun _ h => (nomatch h)⟩⟩⟩) (fun v _ h => ⟨fuel17_0 v, (e17_0 _ v).trans h⟩) (fun _ => by kernel_rfl) (fun _ => by kernel_rfl) (fun _ _ => by kernel_rfl)
/- chicane/chicanelaw48.PointsTables -/
abbrev A4_0 : Type := (List Int × Int) × (List (List Int × Int)) × Int
abbrev R4_0 : Type := Bool
def v4_0 : Pk G ((List Int × Int) × (List (List Int × Int)) × Int) := (Pk.fst (pk (Sh.cons (Sh.agg (Sh.cons (Sh.ros 3) (Sh.fst (Sh.cons (Sh.int .i64) Sh.nil)))) (Sh.cons (Sh.ros 26) (Sh.fst (Sh.cons (Sh.int .i64) Sh.nil)))) Sh.hnil))
def w4_0 : Wk G Bool := (Wk.one [.keep] (Pk.fst (pk (Sh.fst (Sh.cons Sh.bool Sh.nil)) Sh.hnil)))
def c4_0_9 : Pk G (Int × (List (Int × Int × List Int)) × List (Int × Int × List Int)) := (pk (Sh.snd (Sh.cons (Sh.osl 0) (Sh.snd (Sh.cons (Sh.osl 1) (Sh.fst (Sh.cons (Sh.int .i64) Sh.nil)))))) (Sh.hrow 1 49 (Sh.fst (Sh.hrow 0 48 Sh.hnil))))
def B4_0_9 (K : ((Int × (List (Int × Int × List Int)) × List (Int × Int × List Int)) → Option Bool)) (v : Int × (List (Int × Int × List Int)) × List (Int × Int × List Int)) : Option Bool :=
  bif (decide (v.1 < ((v.2.2).length : Int))) then
    (idx v.1 (v.2.2).length).bind fun (x1209 : Nat) =>
    ((v.2.2)[x1209]?).bind fun (x1210 : Int × Int × List Int) =>
    (idx v.1 (v.2.1).length).bind fun (x1211 : Nat) =>
    ((v.2.1)[x1211]?).bind fun (x1212 : Int × Int × List Int) =>
    bif (x1210.1 != x1212.1) then
      some (false)
    else
      (idx v.1 (v.2.2).length).bind fun (x1213 : Nat) =>
      ((v.2.2)[x1213]?).bind fun (x1214 : Int × Int × List Int) =>
      (idx v.1 (v.2.1).length).bind fun (x1215 : Nat) =>
      ((v.2.1)[x1215]?).bind fun (x1216 : Int × Int × List Int) =>
      bif (x1214.2.1 != x1216.2.1) then
        some (false)
      else
        (idx v.1 (v.2.2).length).bind fun (x1217 : Nat) =>
        ((v.2.2)[x1217]?).bind fun (x1218 : Int × Int × List Int) =>
        (idx v.1 (v.2.1).length).bind fun (x1219 : Nat) =>
        ((v.2.1)[x1219]?).bind fun (x1220 : Int × Int × List Int) =>
        (F18_0 (x1218.2.2, x1220.2.2)).bind fun r1221 =>
        bif (!r1221) then
          some (false)
        else
          let x1222 : Int := (IntKind.wrap .i64 (v.1 + (1 : Int)))
          K (x1222, v.2)
  else
    (F13_0 ()).bind fun r1223 =>
    some (r1223)

def E4_0 (K : ((Int × (List (Int × Int × List Int)) × List (Int × Int × List Int)) → Option Bool)) (v : (List Int × Int) × (List (List Int × Int)) × Int) : Option Bool :=
  (F7_0 (v.1, v.2.1)).bind fun r1203 =>
  bif (!r1203) then
    some (true)
  else
    (F8_0 (v.1, v.2.1)).bind fun r1204 =>
    (F14_0 (v.1, v.2.1)).bind fun r1205 =>
    (F15_1 r1204).bind fun r1206 =>
    bif (((r1205).length : Int) != ((r1206.1).length : Int)) then
      some (false)
    else
      (F16_0 v).bind fun r1207 =>
      (F17_0 (r1204.1, (r1206.2, v.2.2))).bind fun r1208 =>
      bif (!(r1207 == r1208)) then
        some (false)
      else
        K ((0 : Int), (r1206.1, r1205))

def K4_0 : Nat → ((Int × (List (Int × Int × List Int)) × List (Int × Int × List Int)) → Option Bool)
  | 0 => (fun _ => none)
  | n + 1 => (B4_0_9 (K4_0 n))
def fuel4_0 (v : (List Int × Int) × (List (List Int × Int)) × Int) : Nat := 20000
def F4_0 (v : (List Int × Int) × (List (List Int × Int)) × Int) : Option Bool := E4_0 (K4_0 (fuel4_0 v)) v
noncomputable def k4_0 : List (Known Try.prog E) := [Known.of envOk [9, 17] [(.agg [(.ros 3), .keep]), (.own 0 38)] v15_1 F15_1 w15_1 ok15_1, Known.of envOk [9, 7] [(.agg [(.ros 3), .keep]), (.ros 26)] v7_0 F7_0 w7_0 ok7_0, Known.of envOk [9, 7] [(.agg [(.ros 3), .keep]), (.ros 26)] v8_0 F8_0 w8_0 ok8_0, Known.of envOk [9, 7] [(.agg [(.ros 3), .keep]), (.ros 26)] v14_0 F14_0 w14_0 ok14_0, Known.of envOk [9, 7, 1] [(.agg [(.ros 3), .keep]), (.ros 26), .keep] v16_0 F16_0 w16_0 ok16_0, Known.of envOk [9, 7, 1] [(.agg [(.ros 3), .keep]), (.ros 38), .keep] v17_0 F17_0 w17_0 ok17_0, Known.of envOk [7, 7] [(.ros 3), (.ros 3)] v18_0 F18_0 w18_0 ok18_0, Known.of envOk [] [] v13_0 F13_0 w13_0 ok13_0]
def s4_0_9 : List (Nat × Pat) := [(9, (.own 0 48)), (10, (.own 1 49)), (11, .keep)]
noncomputable def L4_0 (n id : Nat) (st : St G) : Option Bool := match Nat.beq id 9 with | true => cutK Try.prog E s4_0_9 [] c4_0_9.dec (K4_0 n) st | false => none
set_option maxRecDepth 100000 in
theorem e4_0 (n : Nat) (v : (List Int × Int) × (List (List Int × Int)) × Int) : ev Try.prog E (oracle k4_0) Try.f4.ntmps (fun x => mem x [9]) (L4_0 n) (finF Try.prog E Try.f4.results.toList [[]] w4_0.alts) 4000 [.code (Try.f4.body.getD .skip)] (argSt (v4_0.enc v)) = E4_0 (K4_0 n) v := by kernel_rfl
set_option maxRecDepth 100000 in
theorem b4_0_9 (n : Nat) (v : Int × (List (Int × Int × List Int)) × List (Int × Int × List Int)) : evCut Try.prog E (oracle k4_0) false 4 Try.f4.ntmps (fun x => mem x [9]) (L4_0 n) (finF Try.prog E Try.f4.results.toList [[]] w4_0.alts) 4000 (todoAt (Try.f4.body.getD .skip) 9) (cutSt s4_0_9 (c4_0_9.enc v)) = B4_0_9 (K4_0 n) v := by kernel_rfl
theorem ok4_0 : FnOk Try.prog E 4 v4_0.enc F4_0 w4_0.enc :=
  fn_known (fn := Try.f4) (c := (Try.f4.body.getD .skip)) Try.func4 (by kernel_rfl) rfl envOk (oracle_ok k4_0) mixed v4_0 F4_0 w4_0 [] [[]] (by kernel_rfl) [9] 4000 L4_0 (by kernel_rfl)
    (List.forall_mem_cons.2 ⟨⟨_, [], s4_0_9, c4_0_9.dec, c4_0_9.enc, fun n => (K4_0 n), c4_0_9.ok, fun _ _ => rfl, fun _ => rfl, by kernel_rfl, fun n v _ h => (b4_0_9 n v).trans h⟩, fun _ h => (nomatch h)⟩) (fun v _ h => ⟨fuel4_0 v, (e4_0 _ v).trans h⟩) (fun _ => by kernel_rfl) (fun _ => by kernel_rfl) (fun _ _ => by kernel_rfl)
/- chicane/chicanelaw48.PointsSums -/
abbrev A5_0 : Type := (List Int × Int) × List (List Int × Int)
abbrev R5_0 : Type := Bool
def v5_0 : Pk G ((List Int × Int) × List (List Int × Int)) := (Pk.fst (pk (Sh.cons (Sh.agg (Sh.cons (Sh.ros 3) (Sh.fst (Sh.cons (Sh.int .i64) Sh.nil)))) (Sh.fst (Sh.cons (Sh.ros 26) Sh.nil))) Sh.hnil))
def w5_0 : Wk G Bool := (Wk.one [.keep] (Pk.fst (pk (Sh.fst (Sh.cons Sh.bool Sh.nil)) Sh.hnil)))
def c5_0_5 : Pk G (((List (List Int × Int)) × Int) × (List (Int × Int × List Int)) × List Int × Int) := (pk (Sh.cons (Sh.ros 26) (Sh.snd (Sh.cons (Sh.ptr 0 0) (Sh.snd (Sh.cons (Sh.osl 1) (Sh.fst (Sh.cons (Sh.int .i64) Sh.nil))))))) (Sh.hrow 1 48 (Sh.fst (Sh.hfix 0 24 (Sh.cons (Sh.ros 3) (Sh.fst (Sh.cons (Sh.int .i64) Sh.nil))) Sh.hnil))))
def c5_0_9 : Pk G (((List (List Int × Int)) × Int × Int × Int) × (List (Int × Int × List Int)) × List Int × Int) := (pk (Sh.cons (Sh.ros 26) (Sh.snd (Sh.cons (Sh.ptr 0 0) (Sh.snd (Sh.cons (Sh.osl 1) (Sh.cons (Sh.int .i64) (Sh.cons (Sh.int .i64) (Sh.fst (Sh.cons (Sh.int .i64) Sh.nil))))))))) (Sh.hrow 1 48 (Sh.fst (Sh.hfix 0 24 (Sh.cons (Sh.ros 3) (Sh.fst (Sh.cons (Sh.int .i64) Sh.nil))) Sh.hnil))))
def c5_0_15 : Pk G (((List (List Int × Int)) × Int × Int) × (List (Int × Int × List Int)) × List Int × Int) := (pk (Sh.cons (Sh.ros 26) (Sh.snd (Sh.cons (Sh.ptr 0 0) (Sh.snd (Sh.cons (Sh.osl 1) (Sh.cons (Sh.int .i64) (Sh.fst (Sh.cons (Sh.int .i64) Sh.nil)))))))) (Sh.hrow 1 48 (Sh.fst (Sh.hfix 0 24 (Sh.cons (Sh.ros 3) (Sh.fst (Sh.cons (Sh.int .i64) Sh.nil))) Sh.hnil))))
def B5_0_5 (K : ((((List (List Int × Int)) × Int) × (List (Int × Int × List Int)) × List Int × Int) → Option Bool) × ((((List (List Int × Int)) × Int × Int × Int) × (List (Int × Int × List Int)) × List Int × Int) → Option Bool) × ((((List (List Int × Int)) × Int × Int) × (List (Int × Int × List Int)) × List Int × Int) → Option Bool)) (v : ((List (List Int × Int)) × Int) × (List (Int × Int × List Int)) × List Int × Int) : Option Bool :=
  bif (decide (v.1.2 < ((v.2.1).length : Int))) then
    K.2.1 ((v.1.1, (v.1.2, ((0 : Int), (0 : Int)))), v.2)
  else
    (F13_0 ()).bind fun r1331 =>
    some (r1331)

def B5_0_9 (K : ((((List (List Int × Int)) × Int) × (List (Int × Int × List Int)) × List Int × Int) → Option Bool) × ((((List (List Int × Int)) × Int × Int × Int) × (List (Int × Int × List Int)) × List Int × Int) → Option Bool) × ((((List (List Int × Int)) × Int × Int) × (List (Int × Int × List Int)) × List Int × Int) → Option Bool)) (v : ((List (List Int × Int)) × Int × Int × Int) × (List (Int × Int × List Int)) × List Int × Int) : Option Bool :=
  bif (decide (v.1.2.2.2 < ((v.1.1).length : Int))) then
    (rdx v.1.1 v.1.2.2.2).bind fun (x1332 : List Int × Int) =>
    (idx v.1.2.1 (v.2.1).length).bind fun (x1333 : Nat) =>
    ((v.2.1)[x1333]?).bind fun (x1334 : Int × Int × List Int) =>
    (F11_0 (v.2.2, (x1332, x1334.1))).bind fun r1335 =>
    let x1336 : Int := (IntKind.wrap .i64 (v.1.2.2.1 + r1335))
    let x1337 : Int := (IntKind.wrap .i64 (v.1.2.2.2 + (1 : Int)))
    K.2.1 ((v.1.1, (v.1.2.1, (x1336, x1337))), v.2)
  else
    (idx v.1.2.1 (v.2.1).length).bind fun (x1338 : Nat) =>
    ((v.2.1)[x1338]?).bind fun (x1339 : Int × Int × List Int) =>
    bif (x1339.2.1 != v.1.2.2.1) then
      some (false)
    else
      bif (decide (v.1.2.1 > (0 : Int))) then
        (idx v.1.2.1 (v.2.1).length).bind fun (x1340 : Nat) =>
        ((v.2.1)[x1340]?).bind fun (x1341 : Int × Int × List Int) =>
        let x1342 : Int := (IntKind.wrap .i64 (v.1.2.1 - (1 : Int)))
        (idx x1342 (v.2.1).length).bind fun (x1343 : Nat) =>
        ((v.2.1)[x1343]?).bind fun (x1344 : Int × Int × List Int) =>
        bif (decide (x1341.2.1 > x1344.2.1)) then
          some (false)
        else
          K.2.2 ((v.1.1, (v.1.2.1, (0 : Int))), v.2)
      else
        K.2.2 ((v.1.1, (v.1.2.1, (0 : Int))), v.2)

def B5_0_15 (K : ((((List (List Int × Int)) × Int) × (List (Int × Int × List Int)) × List Int × Int) → Option Bool) × ((((List (List Int × Int)) × Int × Int × Int) × (List (Int × Int × List Int)) × List Int × Int) → Option Bool) × ((((List (List Int × Int)) × Int × Int) × (List (Int × Int × List Int)) × List Int × Int) → Option Bool)) (v : ((List (List Int × Int)) × Int × Int) × (List (Int × Int × List Int)) × List Int × Int) : Option Bool :=
  bif (decide (v.1.2.2 < v.1.2.1)) then
    (idx v.1.2.2 (v.2.1).length).bind fun (x1345 : Nat) =>
    ((v.2.1)[x1345]?).bind fun (x1346 : Int × Int × List Int) =>
    (idx v.1.2.1 (v.2.1).length).bind fun (x1347 : Nat) =>
    ((v.2.1)[x1347]?).bind fun (x1348 : Int × Int × List Int) =>
    bif (x1346.1 == x1348.1) then
      some (false)
    else
      let x1349 : Int := (IntKind.wrap .i64 (v.1.2.2 + (1 : Int)))
      K.2.2 ((v.1.1, (v.1.2.1, x1349)), v.2)
  else
    let x1350 : Int := (IntKind.wrap .i64 (v.1.2.1 + (1 : Int)))
    K.1 ((v.1.1, x1350), v.2)

def E5_0 (K : ((((List (List Int × Int)) × Int) × (List (Int × Int × List Int)) × List Int × Int) → Option Bool) × ((((List (List Int × Int)) × Int × Int × Int) × (List (Int × Int × List Int)) × List Int × Int) → Option Bool) × ((((List (List Int × Int)) × Int × Int) × (List (Int × Int × List Int)) × List Int × Int) → Option Bool)) (v : (List Int × Int) × List (List Int × Int)) : Option Bool :=
  (F7_0 v).bind fun r1329 =>
  bif (!r1329) then
    some (true)
  else
    (F14_0 v).bind fun r1330 =>
    K.1 ((v.2, (0 : Int)), (r1330, v.1))

def K5_0 : Nat → ((((List (List Int × Int)) × Int) × (List (Int × Int × List Int)) × List Int × Int) → Option Bool) × ((((List (List Int × Int)) × Int × Int × Int) × (List (Int × Int × List Int)) × List Int × Int) → Option Bool) × ((((List (List Int × Int)) × Int × Int) × (List (Int × Int × List Int)) × List Int × Int) → Option Bool)
  | 0 => (fun _ => none, fun _ => none, fun _ => none)
  | n + 1 => (B5_0_5 (K5_0 n), B5_0_9 (K5_0 n), B5_0_15 (K5_0 n))
def fuel5_0 (v : (List Int × Int) × List (List Int × Int)) : Nat := 4000000
def F5_0 (v : (List Int × Int) × List (List Int × Int)) : Option Bool := E5_0 (K5_0 (fuel5_0 v)) v
noncomputable def k5_0 : List (Known Try.prog E) := [Known.of envOk [9, 7] [(.agg [(.ros 3), .keep]), (.ros 26)] v7_0 F7_0 w7_0 ok7_0, Known.of envOk [9, 7] [(.agg [(.ros 3), .keep]), (.ros 26)] v14_0 F14_0 w14_0 ok14_0, Known.of envOk [] [] v13_0 F13_0 w13_0 ok13_0, Known.of envOk [9, 9, 1] [(.agg [(.ros 3), .keep]), (.agg [(.ros 3), .keep]), .keep] v11_0 F11_0 w11_0 ok11_0]
def s5_0_15 : List (Nat × Pat) := [(1, (.ros 26)), (2, (.ptr 0 0 24 [(.ros 3), .keep])), (5, (.own 1 48)), (6, .keep), (9, .keep)]
def s5_0_9 : List (Nat × Pat) := [(1, (.ros 26)), (2, (.ptr 0 0 24 [(.ros 3), .keep])), (5, (.own 1 48)), (6, .keep), (7, .keep), (8, .keep)]
def s5_0_5 : List (Nat × Pat) := [(1, (.ros 26)), (2, (.ptr 0 0 24 [(.ros 3), .keep])), (5, (.own 1 48)), (6, .keep)]
noncomputable def L5_0 (n id : Nat) (st : St G) : Option Bool := match Nat.beq id 5 with | true => cutK Try.prog E s5_0_5 [] c5_0_5.dec (K5_0 n).1 st | false => match Nat.beq id 9 with | true => cutK Try.prog E s5_0_9 [] c5_0_9.dec (K5_0 n).2.1 st | false => match Nat.beq id 15 with | true => cutK Try.prog E s5_0_15 [] c5_0_15.dec (K5_0 n).2.2 st | false => none
set_option maxRecDepth 100000 in
theorem e5_0 (n : Nat) (v : (List Int × Int) × List (List Int × Int)) : ev Try.prog E (oracle k5_0) Try.f5.ntmps (fun x => mem x [5, 9, 15]) (L5_0 n) (finF Try.prog E Try.f5.results.toList [[]] w5_0.alts) 4000 [.code (Try.f5.body.getD .skip)] (argSt (v5_0.enc v)) = E5_0 (K5_0 n) v := by kernel_rfl
set_option maxRecDepth 100000 in
theorem b5_0_5 (n : Nat) (v : ((List (List Int × Int)) × Int) × (List (Int × Int × List Int)) × List Int × Int) : evCut Try.prog E (oracle k5_0) false 5 Try.f5.ntmps (fun x => mem x [5, 9, 15]) (L5_0 n) (finF Try.prog E Try.f5.results.toList [[]] w5_0.alts) 4000 (todoAt (Try.f5.body.getD .skip) 5) (cutSt s5_0_5 (c5_0_5.enc v)) = B5_0_5 (K5_0 n) v := by kernel_rfl
set_option maxRecDepth 100000 in
theorem b5_0_9 (n : Nat) (v : ((List (List Int × Int)) × Int × Int × Int) × (List (Int × Int × List Int)) × List Int × Int) : evCut Try.prog E (oracle k5_0) false 5 Try.f5.ntmps (fun x => mem x [5, 9, 15]) (L5_0 n) (finF Try.prog E Try.f5.results.toList [[]] w5_0.alts) 4000 (todoAt (Try.f5.body.getD .skip) 9) (cutSt s5_0_9 (c5_0_9.enc v)) = B5_0_9 (K5_0 n) v := by kernel_rfl
set_option maxRecDepth 100000 in
theorem b5_0_15 (n : Nat) (v : ((List (List Int × Int)) × Int × Int) × (List (Int × Int × List Int)) × List Int × Int) : evCut Try.prog E (oracle k5_0) false 5 Try.f5.ntmps (fun x => mem x [5, 9, 15]) (L5_0 n) (finF Try.prog E Try.f5.results.toList [[]] w5_0.alts) 4000 (todoAt (Try.f5.body.getD .skip) 15) (cutSt s5_0_15 (c5_0_15.enc v)) = B5_0_15 (K5_0 n) v := by kernel_rfl
theorem ok5_0 : FnOk Try.prog E 5 v5_0.enc F5_0 w5_0.enc :=
  fn_known (fn := Try.f5) (c := (Try.f5.body.getD .skip)) Try.func5 (by kernel_rfl) rfl envOk (oracle_ok k5_0) mixed v5_0 F5_0 w5_0 [] [[]] (by kernel_rfl) [5, 9, 15] 4000 L5_0 (by kernel_rfl)
    (List.forall_mem_cons.2 ⟨⟨_, [], s5_0_5, c5_0_5.dec, c5_0_5.enc, fun n => (K5_0 n).1, c5_0_5.ok, fun _ _ => rfl, fun _ => rfl, by kernel_rfl, fun n v _ h => (b5_0_5 n v).trans h⟩, List.forall_mem_cons.2 ⟨⟨_, [], s5_0_9, c5_0_9.dec, c5_0_9.enc, fun n => (K5_0 n).2.1, c5_0_9.ok, fun _ _ => rfl, fun _ => rfl, by kernel_rfl, fun n v _ h => (b5_0_9 n v).trans h⟩, List.forall_mem_cons.2 ⟨⟨_, [], s5_0_15, c5_0_15.dec, c5_0_15.enc, fun n => (K5_0 n).2.2, c5_0_15.ok, fun _ _ => rfl, fun _ => rfl, by kernel_rfl, fun n v _ h => (b5_0_15 n v).trans h⟩, fun _ h => (nomatch h)⟩⟩⟩) (fun v _ h => ⟨fuel5_0 v, (e5_0 _ v).trans h⟩) (fun _ => by kernel_rfl) (fun _ => by kernel_rfl) (fun _ _ => by kernel_rfl)
/- chicane/points.Table -/
abbrev A14_2 : Type := (List Int × Int) × List (List Int × Int)
abbrev R14_2 : Type := (List (Int × Int × List Int)) × List (List Int × Int)
def v14_2 : Pk G ((List Int × Int) × List (List Int × Int)) := (pk (Sh.fst (Sh.cons (Sh.agg (Sh.cons (Sh.ros 3) (Sh.fst (Sh.cons (Sh.int .i64) Sh.nil)))) (Sh.snd (Sh.cons (Sh.osl 0) Sh.nil)))) (Sh.fst (Sh.hrow 0 26 Sh.hnil)))
def w14_2 : Wk G ((List (Int × Int × List Int)) × List (List Int × Int)) := (Wk.one [(.own 1 48)] (Pk.snd (pk (Sh.snd (Sh.cons (Sh.osl 1) Sh.nil)) (Sh.hrow 1 48 (Sh.fst (Sh.hrow 0 26 Sh.hnil))))))
def c14_2_5 : Pk G ((Int × Bool × Int × Int) × List Int × (List (Int × (Int × Int × List Int))) × (List Int × Int) × List (List Int × Int)) := (pk (Sh.snd (Sh.cons (Sh.ptr 1 0) (Sh.snd (Sh.cons (Sh.mapv 2) (Sh.snd (Sh.cons (Sh.osl 3) (Sh.cons (Sh.int .i64) (Sh.cons Sh.bool (Sh.snd (Sh.cons (Sh.osl 0) (Sh.cons (Sh.int .i64) (Sh.fst (Sh.cons (Sh.int .i64) Sh.nil))))))))))))) (Sh.hrow 3 3 (Sh.hmrow 2 48 (Sh.hfix 1 24 (Sh.cons (Sh.ros 3) (Sh.fst (Sh.cons (Sh.int .i64) Sh.nil))) (Sh.fst (Sh.hrow 0 26 Sh.hnil))))))
def c14_2_9 : Pk G ((Int × Bool × Int × Int × List Int × Int × Int) × List Int × (List Int × Int) × List Int × (List (Int × (Int × Int × List Int))) × (List Int × Int) × List (List Int × Int)) := (pk (Sh.snd (Sh.cons (Sh.ptr 1 0) (Sh.snd (Sh.cons (Sh.mapv 2) (Sh.snd (Sh.cons (Sh.osl 3) (Sh.cons (Sh.int .i64) (Sh.cons Sh.bool (Sh.snd (Sh.cons (Sh.ptr 4 0) (Sh.snd (Sh.cons (Sh.mapv 5) (Sh.snd (Sh.cons (Sh.osl 0) (Sh.cons (Sh.int .i64) (Sh.cons (Sh.int .i64) (Sh.cons (Sh.ros 3) (Sh.cons (Sh.int .i64) (Sh.fst (Sh.cons (Sh.int .i64) Sh.nil)))))))))))))))))))) (Sh.hset 5 (Sh.hfix 4 26 (Sh.cons (Sh.ros 3) (Sh.fst (Sh.cons (Sh.int .i64) Sh.nil))) (Sh.hrow 3 3 (Sh.hmrow 2 48 (Sh.hfix 1 24 (Sh.cons (Sh.ros 3) (Sh.fst (Sh.cons (Sh.int .i64) Sh.nil))) (Sh.fst (Sh.hrow 0 26 Sh.hnil))))))))
def c14_2_25 : Pk G (((List (Int × (Int × Int × List Int))) × Int × Int) × List Int × (List (Int × Int × List Int)) × List (List Int × Int)) := (pk (Sh.cons (Sh.romap 48) (Sh.snd (Sh.cons (Sh.osl 1) (Sh.snd (Sh.cons (Sh.osl 2) (Sh.cons (Sh.int .i64) (Sh.fst (Sh.cons (Sh.int .i64) Sh.nil)))))))) (Sh.hrow 2 3 (Sh.hrow 1 48 (Sh.fst (Sh.hrow 0 26 Sh.hnil)))))
def B14_2_5 (K : (((Int × Bool × Int × Int) × List Int × (List (Int × (Int × Int × List Int))) × (List Int × Int) × List (List Int × Int)) → Option ((List (Int × Int × List Int)) × List (List Int × Int))) × (((Int × Bool × Int × Int × List Int × Int × Int) × List Int × (List Int × Int) × List Int × (List (Int × (Int × Int × List Int))) × (List Int × Int) × List (List Int × Int)) → Option ((List (Int × Int × List Int)) × List (List Int × Int))) × ((((List (Int × (Int × Int × List Int))) × Int × Int) × List Int × (List (Int × Int × List Int)) × List (List Int × Int)) → Option ((List (Int × Int × List Int)) × List (List Int × Int)))) (v : (Int × Bool × Int × Int) × List Int × (List (Int × (Int × Int × List Int))) × (List Int × Int) × List (List Int × Int)) : Option ((List (Int × Int × List Int)) × List (List Int × Int)) :=
  bif (decide (v.1.2.2.2 < v.1.2.2.1)) then
    (idx v.1.2.2.2 (v.2.2.2.2).length).bind fun (x1496 : Nat) =>
    ((v.2.2.2.2)[x1496]?).bind fun (x1497 : List Int × Int) =>
    K.2.1 ((v.1.1, (v.1.2.1, (v.1.2.2.1, (v.1.2.2.2, (x1497.1, (((x1497.1).length : Int), (0 : Int))))))), (([] : List Int), (x1497, v.2)))
  else
    K.2.2 ((v.2.2.1, (((v.2.1).length : Int), (0 : Int))), (v.2.1, (([] : List (Int × Int × List Int)), v.2.2.2.2)))

def B14_2_9 (K : (((Int × Bool × Int × Int) × List Int × (List (Int × (Int × Int × List Int))) × (List Int × Int) × List (List Int × Int)) → Option ((List (Int × Int × List Int)) × List (List Int × Int))) × (((Int × Bool × Int × Int × List Int × Int × Int) × List Int × (List Int × Int) × List Int × (List (Int × (Int × Int × List Int))) × (List Int × Int) × List (List Int × Int)) → Option ((List (Int × Int × List Int)) × List (List Int × Int))) × ((((List (Int × (Int × Int × List Int))) × Int × Int) × List Int × (List (Int × Int × List Int)) × List (List Int × Int)) → Option ((List (Int × Int × List Int)) × List (List Int × Int)))) (v : (Int × Bool × Int × Int × List Int × Int × Int) × List Int × (List Int × Int) × List Int × (List (Int × (Int × Int × List Int))) × (List Int × Int) × List (List Int × Int)) : Option ((List (Int × Int × List Int)) × List (List Int × Int)) :=
  bif (decide (v.1.2.2.2.2.2.2 < v.1.2.2.2.2.2.1)) then
    (rdx v.1.2.2.2.2.1 v.1.2.2.2.2.2.2).bind fun (x1498 : Int) =>
    bif (hasI x1498 v.2.1) then
      let x1499 : Int := (IntKind.wrap .i64 (v.1.2.2.2.2.2.2 + (1 : Int)))
      K.2.1 ((v.1.1, (v.1.2.1, (v.1.2.2.1, (v.1.2.2.2.1, (v.1.2.2.2.2.1, (v.1.2.2.2.2.2.1, x1499)))))), v.2)
    else
      let x1500 : List Int := (addI x1498 v.2.1)
      match (keyS x1498 v.2.2.2.2.1) with
      | .inl q1501 =>
        (idx v.1.2.2.2.2.2.2 (q1501.2.2.2).length).bind fun (x1503 : Nat) =>
        ((q1501.2.2.2)[x1503]?).bind fun (x1504 : Int) =>
        let x1505 : Int := (IntKind.wrap .i64 (x1504 + (1 : Int)))
        (idx v.1.2.2.2.2.2.2 (q1501.2.2.2).length).bind fun (x1506 : Nat) =>
        ((q1501.2.2.2)[x1506]?).bind fun _ =>
        let x1508 : List Int := (q1501.2.2.2).set x1506 (x1505)
        bif v.1.2.1 then
          (F22_0 (v.2.2.2.2.2.1, (v.2.2.1, (x1498, v.1.2.2.2.2.2.2)))).bind fun r1509 =>
          let x1510 : Int := (IntKind.wrap .i64 (q1501.2.2.1 + r1509))
          let x1511 : Int := (IntKind.wrap .i64 (v.1.2.2.2.2.2.2 + (1 : Int)))
          K.2.1 ((v.1.1, (v.1.2.1, (v.1.2.2.1, (v.1.2.2.2.1, (v.1.2.2.2.2.1, (v.1.2.2.2.2.2.1, x1511)))))), (x1500, (v.2.2.1, (v.2.2.2.1, ((setVal v.2.2.2.2.1 q1501.1 (q1501.2.1, (x1510, x1508))), v.2.2.2.2.2)))))
        else
          let x1512 : Int := (IntKind.wrap .i64 (v.1.2.2.2.2.2.2 + (1 : Int)))
          K.2.1 ((v.1.1, (v.1.2.1, (v.1.2.2.1, (v.1.2.2.2.1, (v.1.2.2.2.2.1, (v.1.2.2.2.2.2.1, x1512)))))), (x1500, (v.2.2.1, (v.2.2.2.1, ((setVal v.2.2.2.2.1 q1501.1 (q1501.2.1, (q1501.2.2.1, x1508))), v.2.2.2.2.2)))))
      | .inr u1502 =>
        (chk (decide (0 ≤ v.1.1 ∧ v.1.1 ≤ v.1.1 ∧ v.1.1 * 8 ≤ 140737488355328 ∧ v.1.1 ≤ 9223372036854775807))).bind fun _ =>
        (noKey x1498 v.2.2.2.2.1).bind fun _ =>
        (chk (decide (((v.2.2.2.1).length + (([x1498] : List Int)).length) * 8 ≤ 140737488355328))).bind fun _ =>
        let x1513 : List Int := (v.2.2.2.1 ++ ([x1498] : List Int))
        (idx v.1.2.2.2.2.2.2 ((List.replicate (v.1.1).toNat ((0 : Int) : Int))).length).bind fun (x1514 : Nat) =>
        (((List.replicate (v.1.1).toNat ((0 : Int) : Int)))[x1514]?).bind fun (x1515 : Int) =>
        let x1516 : Int := (IntKind.wrap .i64 (x1515 + (1 : Int)))
        (idx v.1.2.2.2.2.2.2 ((List.replicate (v.1.1).toNat ((0 : Int) : Int))).length).bind fun (x1517 : Nat) =>
        (((List.replicate (v.1.1).toNat ((0 : Int) : Int)))[x1517]?).bind fun _ =>
        let x1519 : List Int := ((List.replicate (v.1.1).toNat ((0 : Int) : Int))).set x1517 (x1516)
        bif v.1.2.1 then
          (F22_0 (v.2.2.2.2.2.1, (v.2.2.1, (x1498, v.1.2.2.2.2.2.2)))).bind fun r1520 =>
          let x1521 : Int := (IntKind.wrap .i64 ((0 : Int) + r1520))
          let x1522 : Int := (IntKind.wrap .i64 (v.1.2.2.2.2.2.2 + (1 : Int)))
          K.2.1 ((v.1.1, (v.1.2.1, (v.1.2.2.1, (v.1.2.2.2.1, (v.1.2.2.2.2.1, (v.1.2.2.2.2.2.1, x1522)))))), (x1500, (v.2.2.1, (x1513, ((setVal (v.2.2.2.2.1 ++ [(x1498, (x1498, ((0 : Int), (List.replicate (v.1.1).toNat ((0 : Int) : Int)))))]) (v.2.2.2.2.1).length (x1498, (x1521, x1519))), v.2.2.2.2.2)))))
        else
          let x1523 : Int := (IntKind.wrap .i64 (v.1.2.2.2.2.2.2 + (1 : Int)))
          K.2.1 ((v.1.1, (v.1.2.1, (v.1.2.2.1, (v.1.2.2.2.1, (v.1.2.2.2.2.1, (v.1.2.2.2.2.2.1, x1523)))))), (x1500, (v.2.2.1, (x1513, ((setVal (v.2.2.2.2.1 ++ [(x1498, (x1498, ((0 : Int), (List.replicate (v.1.1).toNat ((0 : Int) : Int)))))]) (v.2.2.2.2.1).length (x1498, ((0 : Int), x1519))), v.2.2.2.2.2)))))
  else
    let x1524 : Int := (IntKind.wrap .i64 (v.1.2.2.2.1 + (1 : Int)))
    K.1 ((v.1.1, (v.1.2.1, (v.1.2.2.1, x1524))), v.2.2.2)

def B14_2_25 (K : (((Int × Bool × Int × Int) × List Int × (List (Int × (Int × Int × List Int))) × (List Int × Int) × List (List Int × Int)) → Option ((List (Int × Int × List Int)) × List (List Int × Int))) × (((Int × Bool × Int × Int × List Int × Int × Int) × List Int × (List Int × Int) × List Int × (List (Int × (Int × Int × List Int))) × (List Int × Int) × List (List Int × Int)) → Option ((List (Int × Int × List Int)) × List (List Int × Int))) × ((((List (Int × (Int × Int × List Int))) × Int × Int) × List Int × (List (Int × Int × List Int)) × List (List Int × Int)) → Option ((List (Int × Int × List Int)) × List (List Int × Int)))) (v : ((List (Int × (Int × Int × List Int))) × Int × Int) × List Int × (List (Int × Int × List Int)) × List (List Int × Int)) : Option ((List (Int × Int × List Int)) × List (List Int × Int)) :=
  bif (decide (v.1.2.2 < v.1.2.1)) then
    (idx v.1.2.2 (v.2.1).length).bind fun (x1525 : Nat) =>
    ((v.2.1)[x1525]?).bind fun (x1526 : Int) =>
    (keyO x1526 v.1.1).bind fun (x1527 : Nat × (Int × Int × List Int)) =>
    (chk (decide (((v.2.2.1).length + (([x1527.2] : List (Int × Int × List Int))).length) * 40 ≤ 140737488355328))).bind fun _ =>
    let x1528 : List (Int × Int × List Int) := (v.2.2.1 ++ ([x1527.2] : List (Int × Int × List Int)))
    let x1529 : Int := (IntKind.wrap .i64 (v.1.2.2 + (1 : Int)))
    K.2.2 ((v.1.1, (v.1.2.1, x1529)), (v.2.1, (x1528, v.2.2.2)))
  else
    (F25_0 v.2.2.1).bind fun r1530 =>
    some (r1530, v.2.2.2)

def E14_2 (K : (((Int × Bool × Int × Int) × List Int × (List (Int × (Int × Int × List Int))) × (List Int × Int) × List (List Int × Int)) → Option ((List (Int × Int × List Int)) × List (List Int × Int))) × (((Int × Bool × Int × Int × List Int × Int × Int) × List Int × (List Int × Int) × List Int × (List (Int × (Int × Int × List Int))) × (List Int × Int) × List (List Int × Int)) → Option ((List (Int × Int × List Int)) × List (List Int × Int))) × ((((List (Int × (Int × Int × List Int))) × Int × Int) × List Int × (List (Int × Int × List Int)) × List (List Int × Int)) → Option ((List (Int × Int × List Int)) × List (List Int × Int)))) (v : (List Int × Int) × List (List Int × Int)) : Option ((List (Int × Int × List Int)) × List (List Int × Int)) :=
  (F24_0 v.2).bind fun r1494 =>
  (F9_0 v.1).bind fun r1495 =>
  K.1 ((r1494, ((r1495 == (0 : Int)), (((v.2).length : Int), (0 : Int)))), (([] : List Int), (([] : List (Int × (Int × Int × List Int))), v)))

def K14_2 : Nat → (((Int × Bool × Int × Int) × List Int × (List (Int × (Int × Int × List Int))) × (List Int × Int) × List (List Int × Int)) → Option ((List (Int × Int × List Int)) × List (List Int × Int))) × (((Int × Bool × Int × Int × List Int × Int × Int) × List Int × (List Int × Int) × List Int × (List (Int × (Int × Int × List Int))) × (List Int × Int) × List (List Int × Int)) → Option ((List (Int × Int × List Int)) × List (List Int × Int))) × ((((List (Int × (Int × Int × List Int))) × Int × Int) × List Int × (List (Int × Int × List Int)) × List (List Int × Int)) → Option ((List (Int × Int × List Int)) × List (List Int × Int)))
  | 0 => (fun _ => none, fun _ => none, fun _ => none)
  | n + 1 => (B14_2_5 (K14_2 n), B14_2_9 (K14_2 n), B14_2_25 (K14_2 n))
def fuel14_2 (v : (List Int × Int) × List (List Int × Int)) : Nat := 20000
def F14_2 (v : (List Int × Int) × List (List Int × Int)) : Option ((List (Int × Int × List Int)) × List (List Int × Int)) := E14_2 (K14_2 (fuel14_2 v)) v
noncomputable def k14_2 : List (Known Try.prog E) := [Known.of envOk [7] [(.ros 26)] v24_0 F24_0 w24_0 ok24_0, Known.of envOk [9] [(.agg [(.ros 3), .keep])] v9_0 F9_0 w9_0 ok9_0, Known.of envOk [9, 9, 1, 1] [(.agg [(.ros 3), .keep]), (.agg [(.ros 3), .keep]), .keep, .keep] v22_0 F22_0 w22_0 ok22_0, Known.of envOk [7, 126] [(.own 0 48), (.fn (.func 26) [] [])] v25_0 F25_0 w25_0 ok25_0]
def s14_2_25 : List (Nat × Pat) := [(5, (.romap 48)), (15, (.own 1 48)), (85, (.own 2 3)), (86, .keep), (87, .keep)]
def s14_2_9 : List (Nat × Pat) := [(2, (.ptr 1 0 24 [(.ros 3), .keep])), (5, (.mrow 2 48)), (6, (.own 3 3)), (7, .keep), (8, .keep), (10, (.ptr 4 0 26 [(.ros 3), .keep])), (11, (.mset 5)), (24, (.own 0 26)), (25, .keep), (26, .keep), (32, (.ros 3)), (33, .keep), (34, .keep)]
def s14_2_5 : List (Nat × Pat) := [(2, (.ptr 1 0 24 [(.ros 3), .keep])), (5, (.mrow 2 48)), (6, (.own 3 3)), (7, .keep), (8, .keep), (24, (.own 0 26)), (25, .keep), (26, .keep)]
noncomputable def L14_2 (n id : Nat) (st : St G) : Option ((List (Int × Int × List Int)) × List (List Int × Int)) := match Nat.beq id 5 with | true => cutK Try.prog E s14_2_5 [(.own 0 26)] c14_2_5.dec (K14_2 n).1 st | false => match Nat.beq id 9 with | true => cutK Try.prog E s14_2_9 [(.own 0 26)] c14_2_9.dec (K14_2 n).2.1 st | false => match Nat.beq id 25 with | true => cutK Try.prog E s14_2_25 [(.own 0 26)] c14_2_25.dec (K14_2 n).2.2 st | false => none
set_option maxRecDepth 100000 in
theorem e14_2 (n : Nat) (v : (List Int × Int) × List (List Int × Int)) : ev Try.prog E (oracle k14_2) Try.f14.ntmps (fun x => mem x [5, 9, 25]) (L14_2 n) (finF Try.prog E Try.f14.results.toList [[(.own 0 26)]] w14_2.alts) 4000 [.code (Try.f14.body.getD .skip)] (argSt (v14_2.enc v)) = E14_2 (K14_2 n) v := by kernel_rfl
set_option maxRecDepth 100000 in
theorem b14_2_5 (n : Nat) (v : (Int × Bool × Int × Int) × List Int × (List (Int × (Int × Int × List Int))) × (List Int × Int) × List (List Int × Int)) : evCut Try.prog E (oracle k14_2) false 14 Try.f14.ntmps (fun x => mem x [5, 9, 25]) (L14_2 n) (finF Try.prog E Try.f14.results.toList [[(.own 0 26)]] w14_2.alts) 4000 (todoAt (Try.f14.body.getD .skip) 5) (cutSt s14_2_5 (c14_2_5.enc v)) = B14_2_5 (K14_2 n) v := by kernel_rfl
set_option maxRecDepth 100000 in
theorem b14_2_9 (n : Nat) (v : (Int × Bool × Int × Int × List Int × Int × Int) × List Int × (List Int × Int) × List Int × (List (Int × (Int × Int × List Int))) × (List Int × Int) × List (List Int × Int)) : evCut Try.prog E (oracle k14_2) false 14 Try.f14.ntmps (fun x => mem x [5, 9, 25]) (L14_2 n) (finF Try.prog E Try.f14.results.toList [[(.own 0 26)]] w14_2.alts) 4000 (todoAt (Try.f14.body.getD .skip) 9) (cutSt s14_2_9 (c14_2_9.enc v)) = B14_2_9 (K14_2 n) v := by kernel_rfl
set_option maxRecDepth 100000 in
theorem b14_2_25 (n : Nat) (v : ((List (Int × (Int × Int × List Int))) × Int × Int) × List Int × (List (Int × Int × List Int)) × List (List Int × Int)) : evCut Try.prog E (oracle k14_2) false 14 Try.f14.ntmps (fun x => mem x [5, 9, 25]) (L14_2 n) (finF Try.prog E Try.f14.results.toList [[(.own 0 26)]] w14_2.alts) 4000 (todoAt (Try.f14.body.getD .skip) 25) (cutSt s14_2_25 (c14_2_25.enc v)) = B14_2_25 (K14_2 n) v := by kernel_rfl
theorem ok14_2 : FnOk Try.prog E 14 v14_2.enc F14_2 w14_2.enc :=
  fn_known (fn := Try.f14) (c := (Try.f14.body.getD .skip)) Try.func14 (by kernel_rfl) rfl envOk (oracle_ok k14_2) mixed v14_2 F14_2 w14_2 [(.own 0 26)] [[(.own 0 26)]] (by kernel_rfl) [5, 9, 25] 4000 L14_2 (by kernel_rfl)
    (List.forall_mem_cons.2 ⟨⟨_, [(.own 0 26)], s14_2_5, c14_2_5.dec, c14_2_5.enc, fun n => (K14_2 n).1, c14_2_5.ok, fun _ _ => rfl, fun _ => rfl, by kernel_rfl, fun n v _ h => (b14_2_5 n v).trans h⟩, List.forall_mem_cons.2 ⟨⟨_, [(.own 0 26)], s14_2_9, c14_2_9.dec, c14_2_9.enc, fun n => (K14_2 n).2.1, c14_2_9.ok, fun _ _ => rfl, fun _ => rfl, by kernel_rfl, fun n v _ h => (b14_2_9 n v).trans h⟩, List.forall_mem_cons.2 ⟨⟨_, [(.own 0 26)], s14_2_25, c14_2_25.dec, c14_2_25.enc, fun n => (K14_2 n).2.2, c14_2_25.ok, fun _ _ => rfl, fun _ => rfl, by kernel_rfl, fun n v _ h => (b14_2_25 n v).trans h⟩, fun _ h => (nomatch h)⟩⟩⟩) (fun v _ h => ⟨fuel14_2 v, (e14_2 _ v).trans h⟩) (fun _ => by kernel_rfl) (fun _ => by kernel_rfl) (fun _ _ => by kernel_rfl)
/- chicane/chicanelaw48.PointsSure -/
abbrev A6_0 : Type := (List Int × Int) × (List (List Int × Int)) × List (List Int × Int)
abbrev R6_0 : Type := Bool
def v6_0 : Pk G ((List Int × Int) × (List (List Int × Int)) × List (List Int × Int)) := (Pk.fst (pk (Sh.cons (Sh.agg (Sh.cons (Sh.ros 3) (Sh.fst (Sh.cons (Sh.int .i64) Sh.nil)))) (Sh.cons (Sh.ros 26) (Sh.fst (Sh.cons (Sh.ros 26) Sh.nil)))) Sh.hnil))
def w6_0 : Wk G Bool := (Wk.one [.keep] (Pk.fst (pk (Sh.fst (Sh.cons Sh.bool Sh.nil)) Sh.hnil)))
def F6_0 (v : (List Int × Int) × (List (List Int × Int)) × List (List Int × Int)) : Option Bool :=
  (F7_0 (v.1, v.2.1)).bind fun r1554 =>
  bif (!r1554) then
    (F13_0 ()).bind fun r1555 =>
    some (r1555)
  else
    (F7_0 (v.1, v.2.2)).bind fun r1556 =>
    bif (!r1556) then
      (F13_0 ()).bind fun r1557 =>
      some (r1557)
    else
      (F16_0 (v.1, (v.2.1, ((v.2.2).length : Int)))).bind fun r1558 =>
      bif (!r1558) then
        (F13_0 ()).bind fun r1559 =>
        some (r1559)
      else
        (F14_0 (v.1, v.2.1)).bind fun r1560 =>
        (chk (decide (((([] : List (List Int × Int))).length + (v.2.1).length) * 32 ≤ 140737488355328))).bind fun _ =>
        let x1561 : List (List Int × Int) := (([] : List (List Int × Int)) ++ v.2.1)
        (chk (decide (((x1561).length + (v.2.2).length) * 32 ≤ 140737488355328))).bind fun _ =>
        let x1562 : List (List Int × Int) := (x1561 ++ v.2.2)
        (F14_2 (v.1, x1562)).bind fun r1563 =>
        bif (decide (((r1560).length : Int) > (0 : Int))) then
          bif (decide (((r1563.1).length : Int) > (0 : Int))) then
            (idx (0 : Int) (r1563.1).length).bind fun (x1564 : Nat) =>
            ((r1563.1)[x1564]?).bind fun (x1565 : Int × Int × List Int) =>
            (idx (0 : Int) (r1560).length).bind fun (x1566 : Nat) =>
            ((r1560)[x1566]?).bind fun (x1567 : Int × Int × List Int) =>
            bif (x1565.1 == x1567.1) then
              (F9_0 v.1).bind fun r1568 =>
              bif (r1568 == (0 : Int)) then
                (F13_0 ()).bind fun r1569 =>
                some (r1569)
              else
                some (false)
            else
              some (false)
          else
            some (false)
        else
          some (false)

noncomputable def k6_0 : List (Known Try.prog E) := [Known.of envOk [9, 17] [(.agg [(.ros 3), .keep]), (.own 0 26)] v14_2 F14_2 w14_2 ok14_2, Known.of envOk [9, 7] [(.agg [(.ros 3), .keep]), (.ros 26)] v7_0 F7_0 w7_0 ok7_0, Known.of envOk [] [] v13_0 F13_0 w13_0 ok13_0, Known.of envOk [9, 7, 1] [(.agg [(.ros 3), .keep]), (.ros 26), .keep] v16_0 F16_0 w16_0 ok16_0, Known.of envOk [9, 7] [(.agg [(.ros 3), .keep]), (.ros 26)] v14_0 F14_0 w14_0 ok14_0, Known.of envOk [9] [(.agg [(.ros 3), .keep])] v9_0 F9_0 w9_0 ok9_0]
noncomputable def L6_0 (n id : Nat) (st : St G) : Option Bool := none
set_option maxRecDepth 100000 in
theorem e6_0 (n : Nat) (v : (List Int × Int) × (List (List Int × Int)) × List (List Int × Int)) : ev Try.prog E (oracle k6_0) Try.f6.ntmps (fun x => mem x []) (L6_0 n) (finF Try.prog E Try.f6.results.toList [[]] w6_0.alts) 4000 [.code (Try.f6.body.getD .skip)] (argSt (v6_0.enc v)) = F6_0 v := by kernel_rfl
theorem ok6_0 : FnOk Try.prog E 6 v6_0.enc F6_0 w6_0.enc :=
  fn_known (fn := Try.f6) (c := (Try.f6.body.getD .skip)) Try.func6 (by kernel_rfl) rfl envOk (oracle_ok k6_0) mixed v6_0 F6_0 w6_0 [] [[]] (by kernel_rfl) [] 4000 L6_0 (by kernel_rfl)
    (fun _ h => nomatch h) (fun v _ h => ⟨0, (e6_0 _ v).trans h⟩) (fun _ => by kernel_rfl) (fun _ => by kernel_rfl) (fun _ _ => by kernel_rfl)
def Dom3_0 (v : (List Int × Int) × (List Int × Int) × Int) : Prop := ((((v.1.1).length ≤ maxLen ∧ ∀ x ∈ v.1.1, (Lit.int .i64 x).wf = true)) ∧ (Lit.int .i64 v.1.2).wf = true) ∧ ((((v.2.1.1).length ≤ maxLen ∧ ∀ x ∈ v.2.1.1, (Lit.int .i64 x).wf = true)) ∧ (Lit.int .i64 v.2.1.2).wf = true) ∧ (Lit.int .i64 v.2.2).wf = true
def Dom4_0 (v : (List Int × Int) × (List (List Int × Int)) × Int) : Prop := ((((v.1.1).length ≤ maxLen ∧ ∀ x ∈ v.1.1, (Lit.int .i64 x).wf = true)) ∧ (Lit.int .i64 v.1.2).wf = true) ∧ (((v.2.1).length ≤ maxLen ∧ ∀ x ∈ v.2.1, (((x.1).length ≤ maxLen ∧ ∀ y ∈ x.1, (Lit.int .i64 y).wf = true)) ∧ (Lit.int .i64 x.2).wf = true)) ∧ (Lit.int .i64 v.2.2).wf = true
def Dom5_0 (v : (List Int × Int) × List (List Int × Int)) : Prop := ((((v.1.1).length ≤ maxLen ∧ ∀ x ∈ v.1.1, (Lit.int .i64 x).wf = true)) ∧ (Lit.int .i64 v.1.2).wf = true) ∧ (((v.2).length ≤ maxLen ∧ ∀ x ∈ v.2, (((x.1).length ≤ maxLen ∧ ∀ y ∈ x.1, (Lit.int .i64 y).wf = true)) ∧ (Lit.int .i64 x.2).wf = true))
def Dom6_0 (v : (List Int × Int) × (List (List Int × Int)) × List (List Int × Int)) : Prop := ((((v.1.1).length ≤ maxLen ∧ ∀ x ∈ v.1.1, (Lit.int .i64 x).wf = true)) ∧ (Lit.int .i64 v.1.2).wf = true) ∧ (((v.2.1).length ≤ maxLen ∧ ∀ x ∈ v.2.1, (((x.1).length ≤ maxLen ∧ ∀ y ∈ x.1, (Lit.int .i64 y).wf = true)) ∧ (Lit.int .i64 x.2).wf = true)) ∧ (((v.2.2).length ≤ maxLen ∧ ∀ x ∈ v.2.2, (((x.1).length ≤ maxLen ∧ ∀ y ∈ x.1, (Lit.int .i64 y).wf = true)) ∧ (Lit.int .i64 x.2).wf = true))
end Go.Proofs.Ytemdppcnhlnicaa.Ev
