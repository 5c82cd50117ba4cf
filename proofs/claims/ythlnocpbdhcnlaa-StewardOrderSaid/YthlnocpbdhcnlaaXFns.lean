import Derived.Test.YthlnocpbdhcnlaaXEnv
set_option linter.unusedVariables false
namespace Go.Proofs.Ythlnocpbdhcnlaa.Ev
open Go Go.RowKit
/- chicane/chicanelaw44.few -/
abbrev A28_0 : Type := List (List (Int × Int × Int × Int))
abbrev R28_0 : Type := Bool
def v28_0 : Pk G (List (List (Int × Int × Int × Int))) := (Pk.fst (pk (Sh.fst (Sh.cons (Sh.ros 25) Sh.nil)) Sh.hnil))
def w28_0 : Wk G Bool := (Wk.one [.keep] (Pk.fst (pk (Sh.fst (Sh.cons Sh.bool Sh.nil)) Sh.hnil)))
def c28_0_2 : Pk G ((List (List (Int × Int × Int × Int))) × Int) := (Pk.fst (pk (Sh.cons (Sh.ros 25) (Sh.fst (Sh.cons (Sh.int .i64) Sh.nil))) Sh.hnil))
def c28_0_7 : Pk G ((List (List (Int × Int × Int × Int))) × Int × Int) := (Pk.fst (pk (Sh.cons (Sh.ros 25) (Sh.cons (Sh.int .i64) (Sh.fst (Sh.cons (Sh.int .i64) Sh.nil)))) Sh.hnil))
def B28_0_2 (K : (((List (List (Int × Int × Int × Int))) × Int) → Option Bool) × (((List (List (Int × Int × Int × Int))) × Int × Int) → Option Bool)) (v : (List (List (Int × Int × Int × Int))) × Int) : Option Bool :=
  bif (decide (v.2 < ((v.1).length : Int))) then
    bif (decide (v.2 < (30 : Int))) then
      (rdx v.1 v.2).bind fun (x21 : List (Int × Int × Int × Int)) =>
      bif (decide (((x21).length : Int) > (300 : Int))) then
        some (false)
      else
        K.2 (v.1, (v.2, (0 : Int)))
    else
      some (decide (((v.1).length : Int) ≤ (30 : Int)))
  else
    some (decide (((v.1).length : Int) ≤ (30 : Int)))

def B28_0_7 (K : (((List (List (Int × Int × Int × Int))) × Int) → Option Bool) × (((List (List (Int × Int × Int × Int))) × Int × Int) → Option Bool)) (v : (List (List (Int × Int × Int × Int))) × Int × Int) : Option Bool :=
  (rdx v.1 v.2.1).bind fun (x22 : List (Int × Int × Int × Int)) =>
  bif (decide (v.2.2 < ((x22).length : Int))) then
    (rdx v.1 v.2.1).bind fun (x23 : List (Int × Int × Int × Int)) =>
    (rdx x23 v.2.2).bind fun (x24 : Int × Int × Int × Int) =>
    bif (decide (x24.2.2.2 > (4611686018427387904 : Int))) then
      some (false)
    else
      (rdx v.1 v.2.1).bind fun (x25 : List (Int × Int × Int × Int)) =>
      (rdx x25 v.2.2).bind fun (x26 : Int × Int × Int × Int) =>
      bif (decide (x26.2.2.2 < (-4611686018427387904 : Int))) then
        some (false)
      else
        let x27 : Int := (IntKind.wrap .i64 (v.2.2 + (1 : Int)))
        K.2 (v.1, (v.2.1, x27))
  else
    let x28 : Int := (IntKind.wrap .i64 (v.2.1 + (1 : Int)))
    K.1 (v.1, x28)

def E28_0 (K : (((List (List (Int × Int × Int × Int))) × Int) → Option Bool) × (((List (List (Int × Int × Int × Int))) × Int × Int) → Option Bool)) (v : List (List (Int × Int × Int × Int))) : Option Bool :=
  K.1 (v, (0 : Int))

def K28_0 : Nat → (((List (List (Int × Int × Int × Int))) × Int) → Option Bool) × (((List (List (Int × Int × Int × Int))) × Int × Int) → Option Bool)
  | 0 => (fun _ => none, fun _ => none)
  | n + 1 => (B28_0_2 (K28_0 n), B28_0_7 (K28_0 n))
def fuel28_0 (v : List (List (Int × Int × Int × Int))) : Nat := 20000
def F28_0 (v : List (List (Int × Int × Int × Int))) : Option Bool := E28_0 (K28_0 (fuel28_0 v)) v
noncomputable def k28_0 : List (Known Try.prog E) := []
def s28_0_7 : List (Nat × Pat) := [(0, (.ros 25)), (3, .keep), (4, .keep)]
def s28_0_2 : List (Nat × Pat) := [(0, (.ros 25)), (3, .keep)]
noncomputable def L28_0 (n id : Nat) (st : St G) : Option Bool := match Nat.beq id 2 with | true => cutK Try.prog s28_0_2 [] c28_0_2.dec (K28_0 n).1 st | false => match Nat.beq id 7 with | true => cutK Try.prog s28_0_7 [] c28_0_7.dec (K28_0 n).2 st | false => none
set_option maxRecDepth 100000 in
theorem e28_0 (n : Nat) (v : List (List (Int × Int × Int × Int))) : ev Try.prog E (oracle k28_0) Try.f28.ntmps (fun x => mem x [2, 7]) (L28_0 n) (finF Try.prog E Try.f28.results.toList [[]] w28_0.alts) 4000 [.code (Try.f28.body.getD .skip)] (argSt (v28_0.enc v)) = E28_0 (K28_0 n) v := by kernel_rfl
set_option maxRecDepth 100000 in
theorem b28_0_2 (n : Nat) (v : (List (List (Int × Int × Int × Int))) × Int) : evCut Try.prog E (oracle k28_0) false 28 Try.f28.ntmps (fun x => mem x [2, 7]) (L28_0 n) (finF Try.prog E Try.f28.results.toList [[]] w28_0.alts) 4000 (todoAt (Try.f28.body.getD .skip) 2) (cutSt s28_0_2 (c28_0_2.enc v)) = B28_0_2 (K28_0 n) v := by kernel_rfl
set_option maxRecDepth 100000 in
theorem b28_0_7 (n : Nat) (v : (List (List (Int × Int × Int × Int))) × Int × Int) : evCut Try.prog E (oracle k28_0) false 28 Try.f28.ntmps (fun x => mem x [2, 7]) (L28_0 n) (finF Try.prog E Try.f28.results.toList [[]] w28_0.alts) 4000 (todoAt (Try.f28.body.getD .skip) 7) (cutSt s28_0_7 (c28_0_7.enc v)) = B28_0_7 (K28_0 n) v := by kernel_rfl
theorem ok28_0 : FnOk Try.prog E 28 v28_0.enc F28_0 w28_0.enc :=
  fn_known (fn := Try.f28) (c := (Try.f28.body.getD .skip)) Try.func28 (by kernel_rfl) rfl envOk (oracle_ok k28_0) mixed v28_0 F28_0 w28_0 [] [[]] (by kernel_rfl) [2, 7] 4000 L28_0 (by kernel_rfl)
    (List.forall_mem_cons.2 ⟨⟨_, [], s28_0_2, c28_0_2.dec, c28_0_2.enc, fun n => (K28_0 n).1, c28_0_2.ok, fun _ _ => rfl, fun _ => rfl, by kernel_rfl, fun n v _ h => (b28_0_2 n v).trans h⟩, List.forall_mem_cons.2 ⟨⟨_, [], s28_0_7, c28_0_7.dec, c28_0_7.enc, fun n => (K28_0 n).2, c28_0_7.ok, fun _ _ => rfl, fun _ => rfl, by kernel_rfl, fun n v _ h => (b28_0_7 n v).trans h⟩, fun _ h => (nomatch h)⟩⟩) (fun v _ h => ⟨fuel28_0 v, (e28_0 _ v).trans h⟩) (fun _ => by kernel_rfl) (fun _ => by kernel_rfl) (fun _ _ => by kernel_rfl)
/- (chicane/steward.Rules).may -/
abbrev A30_0 : Type := Int × Int × Int × Int
abbrev R30_0 : Type := Bool
def v30_0 : Pk G (Int × Int × Int × Int) := (Pk.fst (pk (Sh.fst (Sh.cons (Sh.agg (Sh.cons (Sh.int .i64) (Sh.cons (Sh.int .i64) (Sh.cons (Sh.int .i64) (Sh.fst (Sh.cons (Sh.int .i64) Sh.nil)))))) Sh.nil)) Sh.hnil))
def w30_0 : Wk G Bool := (Wk.one [.keep] (Pk.fst (pk (Sh.fst (Sh.cons Sh.bool Sh.nil)) Sh.hnil)))
def F30_0 (v : Int × Int × Int × Int) : Option Bool :=
  let x40 : Int := (if v.2.1 < v.1 then v.2.1 else v.1)
  bif (decide (x40 ≥ (0 : Int))) then
    let x41 : Int := (if v.2.1 > v.1 then v.2.1 else v.1)
    bif (decide (x41 ≤ (1125899906842624 : Int))) then
      let x42 : Int := (if v.2.2.2 < v.2.2.1 then v.2.2.2 else v.2.2.1)
      bif (decide (x42 ≥ (0 : Int))) then
        let x43 : Int := (if v.2.2.2 > v.2.2.1 then v.2.2.2 else v.2.2.1)
        some (decide (x43 ≤ (1000 : Int)))
      else
        some (false)
    else
      some (false)
  else
    some (false)

noncomputable def k30_0 : List (Known Try.prog E) := []
noncomputable def L30_0 (n id : Nat) (st : St G) : Option Bool := none
set_option maxRecDepth 100000 in
theorem e30_0 (n : Nat) (v : Int × Int × Int × Int) : ev Try.prog E (oracle k30_0) Try.f30.ntmps (fun x => mem x []) (L30_0 n) (finF Try.prog E Try.f30.results.toList [[]] w30_0.alts) 4000 [.code (Try.f30.body.getD .skip)] (argSt (v30_0.enc v)) = F30_0 v := by kernel_rfl
theorem ok30_0 : FnOk Try.prog E 30 v30_0.enc F30_0 w30_0.enc :=
  fn_known (fn := Try.f30) (c := (Try.f30.body.getD .skip)) Try.func30 (by kernel_rfl) rfl envOk (oracle_ok k30_0) mixed v30_0 F30_0 w30_0 [] [[]] (by kernel_rfl) [] 4000 L30_0 (by kernel_rfl)
    (fun _ h => nomatch h) (fun v _ h => ⟨0, (e30_0 _ v).trans h⟩) (fun _ => by kernel_rfl) (fun _ => by kernel_rfl) (fun _ _ => by kernel_rfl)
/- (chicane/steward.Rules).given -/
abbrev A31_0 : Type := (Int × Int × Int × Int) × List (Int × Int × Int × Int)
abbrev R31_0 : Type := (List (Int × Int × Int × Int)) × Int × Int × Int × Int
def v31_0 : Pk G ((Int × Int × Int × Int) × List (Int × Int × Int × Int)) := (Pk.fst (pk (Sh.cons (Sh.agg (Sh.cons (Sh.int .i64) (Sh.cons (Sh.int .i64) (Sh.cons (Sh.int .i64) (Sh.fst (Sh.cons (Sh.int .i64) Sh.nil)))))) (Sh.fst (Sh.cons (Sh.ros 43) Sh.nil))) Sh.hnil))
def w31_0 : Wk G ((List (Int × Int × Int × Int)) × Int × Int × Int × Int) := (Wk.one [(.fn (.func 44) [] [(.ptr 0 0 24 [.keep, .keep, .keep, .keep]), (.ptr 1 0 25 [(.ros 43)])])] (Pk.snd (pk (Sh.snd (Sh.cons (Sh.snd (Sh.fn (.func 44) Sh.nil (Sh.snd (Sh.cons (Sh.ptr 0 0) (Sh.snd (Sh.cons (Sh.ptr 1 0) Sh.nil)))))) Sh.nil)) (Sh.hfix 1 25 (Sh.fst (Sh.cons (Sh.ros 43) Sh.nil)) (Sh.fst (Sh.hfix 0 24 (Sh.cons (Sh.int .i64) (Sh.cons (Sh.int .i64) (Sh.cons (Sh.int .i64) (Sh.fst (Sh.cons (Sh.int .i64) Sh.nil))))) Sh.hnil))))))
def F31_0 (v : (Int × Int × Int × Int) × List (Int × Int × Int × Int)) : Option ((List (Int × Int × Int × Int)) × Int × Int × Int × Int) :=
  some (v.2, v.1)

noncomputable def k31_0 : List (Known Try.prog E) := []
noncomputable def L31_0 (n id : Nat) (st : St G) : Option ((List (Int × Int × Int × Int)) × Int × Int × Int × Int) := none
set_option maxRecDepth 100000 in
theorem e31_0 (n : Nat) (v : (Int × Int × Int × Int) × List (Int × Int × Int × Int)) : ev Try.prog E (oracle k31_0) Try.f31.ntmps (fun x => mem x []) (L31_0 n) (finF Try.prog E Try.f31.results.toList [[]] w31_0.alts) 4000 [.code (Try.f31.body.getD .skip)] (argSt (v31_0.enc v)) = F31_0 v := by kernel_rfl
theorem ok31_0 : FnOk Try.prog E 31 v31_0.enc F31_0 w31_0.enc :=
  fn_known (fn := Try.f31) (c := (Try.f31.body.getD .skip)) Try.func31 (by kernel_rfl) rfl envOk (oracle_ok k31_0) mixed v31_0 F31_0 w31_0 [] [[]] (by kernel_rfl) [] 4000 L31_0 (by kernel_rfl)
    (fun _ h => nomatch h) (fun v _ h => ⟨0, (e31_0 _ v).trans h⟩) (fun _ => by kernel_rfl) (fun _ => by kernel_rfl) (fun _ _ => by kernel_rfl)
/- chicane/steward.Judge#round6 -/
abbrev A10246_y0 : Type := (Int × Int × Bool) × (List (Int × Int × Bool)) × Int × Bool × (List (Int × Int × Bool)) × Int × Int × Int × Int
abbrev R10246_y0 : Type := (Bool × Int × Bool × (List (Int × Int × Bool)) × (Int × Int × Int × Int) × List (Int × Int × Bool)) ⊕ (Bool × (List (Int × Int × Bool)) × Int × Bool × (Int × Int × Int × Int) × List (Int × Int × Bool))
def v10246_y0 : Pk G ((Int × Int × Bool) × (List (Int × Int × Bool)) × Int × Bool × (List (Int × Int × Bool)) × Int × Int × Int × Int) := (pk (Sh.snd (Sh.cons (Sh.yld 0) (Sh.fst (Sh.cons (Sh.agg (Sh.cons (Sh.int .i64) (Sh.cons (Sh.int .i64) (Sh.fst (Sh.cons Sh.bool Sh.nil))))) Sh.nil)))) (Sh.snd (Sh.hlp 0 10246 .ready (Sh.snd (Sh.cons Sh.any (Sh.snd (Sh.cons Sh.any (Sh.snd (Sh.cons (Sh.ptr 1 0) (Sh.snd (Sh.cons Sh.any (Sh.snd (Sh.cons (Sh.ptr 2 0) (Sh.snd (Sh.cons (Sh.ptr 4 0) (Sh.snd (Sh.cons (Sh.ptr 5 0) (Sh.snd (Sh.cons (Sh.ptr 6 0) (Sh.snd (Sh.cons Sh.any (Sh.snd (Sh.cons Sh.any (Sh.snd (Sh.cons Sh.any (Sh.snd (Sh.cons Sh.any (Sh.snd (Sh.cons Sh.any (Sh.snd (Sh.cons Sh.any (Sh.snd (Sh.cons Sh.any (Sh.snd (Sh.cons Sh.any (Sh.snd (Sh.cons Sh.any (Sh.snd (Sh.cons Sh.any (Sh.snd (Sh.cons Sh.any (Sh.snd (Sh.cons Sh.any (Sh.snd (Sh.cons Sh.any (Sh.snd (Sh.cons Sh.any (Sh.snd (Sh.cons Sh.any (Sh.snd (Sh.cons Sh.any (Sh.snd (Sh.cons Sh.any (Sh.snd (Sh.cons Sh.any (Sh.snd (Sh.cons Sh.any Sh.nil)))))))))))))))))))))))))))))))))))))))))))))))))))))) (Sh.snd (Sh.hfix 6 26 (Sh.snd (Sh.cons (Sh.osl 7) Sh.nil)) (Sh.hrow 7 38 (Sh.hfix 5 27 (Sh.fst (Sh.cons (Sh.int .i64) Sh.nil)) (Sh.hfix 4 4 (Sh.fst (Sh.cons Sh.bool Sh.nil)) (Sh.snd (Sh.hfix 2 26 (Sh.snd (Sh.cons (Sh.osl 3) Sh.nil)) (Sh.hrow 3 38 (Sh.fst (Sh.hfix 1 24 (Sh.cons (Sh.int .i64) (Sh.cons (Sh.int .i64) (Sh.cons (Sh.int .i64) (Sh.fst (Sh.cons (Sh.int .i64) Sh.nil))))) Sh.hnil)))))))))))))
def w10246_y0 : Wk G ((Bool × Int × Bool × (List (Int × Int × Bool)) × (Int × Int × Int × Int) × List (Int × Int × Bool)) ⊕ (Bool × (List (Int × Int × Bool)) × Int × Bool × (Int × Int × Int × Int) × List (Int × Int × Bool))) := (Wk.alt (Wk.one [.keep] (pk (Sh.fst (Sh.cons Sh.bool Sh.nil)) (Sh.snd (Sh.hlp 0 10246 (.done .ret) (Sh.snd (Sh.cons Sh.any (Sh.snd (Sh.cons Sh.any (Sh.snd (Sh.cons (Sh.ptr 1 0) (Sh.snd (Sh.cons Sh.any (Sh.snd (Sh.cons (Sh.ptr 2 0) (Sh.snd (Sh.cons (Sh.ptr 4 0) (Sh.snd (Sh.cons (Sh.ptr 5 0) (Sh.snd (Sh.cons (Sh.ptr 6 0) (Sh.snd (Sh.cons Sh.any (Sh.snd (Sh.cons Sh.any (Sh.snd (Sh.cons Sh.any (Sh.snd (Sh.cons Sh.any (Sh.snd (Sh.cons Sh.any (Sh.snd (Sh.cons Sh.any (Sh.snd (Sh.cons Sh.any (Sh.snd (Sh.cons Sh.any (Sh.snd (Sh.cons Sh.any (Sh.snd (Sh.cons Sh.any (Sh.snd (Sh.cons Sh.any (Sh.snd (Sh.cons Sh.any (Sh.snd (Sh.cons Sh.any (Sh.snd (Sh.cons Sh.any (Sh.snd (Sh.cons Sh.any (Sh.snd (Sh.cons Sh.any (Sh.snd (Sh.cons Sh.any (Sh.snd (Sh.cons Sh.any (Sh.snd (Sh.cons Sh.any Sh.nil)))))))))))))))))))))))))))))))))))))))))))))))))))))) (Sh.snd (Sh.hfix 6 26 (Sh.snd (Sh.cons (Sh.osl 8) Sh.nil)) (Sh.hfix 5 27 (Sh.fst (Sh.cons (Sh.int .i64) Sh.nil)) (Sh.hfix 4 4 (Sh.fst (Sh.cons Sh.bool Sh.nil)) (Sh.snd (Sh.hfix 2 26 (Sh.snd (Sh.cons (Sh.osl 8) Sh.nil)) (Sh.hrow 8 38 (Sh.hfix 1 24 (Sh.cons (Sh.int .i64) (Sh.cons (Sh.int .i64) (Sh.cons (Sh.int .i64) (Sh.fst (Sh.cons (Sh.int .i64) Sh.nil))))) (Sh.fst (Sh.hrow 3 38 Sh.hnil)))))))))))))) (Wk.one [.keep] (pk (Sh.fst (Sh.cons Sh.bool Sh.nil)) (Sh.snd (Sh.hlp 0 10246 .ready (Sh.snd (Sh.cons Sh.any (Sh.snd (Sh.cons Sh.any (Sh.snd (Sh.cons (Sh.ptr 1 0) (Sh.snd (Sh.cons Sh.any (Sh.snd (Sh.cons (Sh.ptr 2 0) (Sh.snd (Sh.cons (Sh.ptr 4 0) (Sh.snd (Sh.cons (Sh.ptr 5 0) (Sh.snd (Sh.cons (Sh.ptr 6 0) (Sh.snd (Sh.cons Sh.any (Sh.snd (Sh.cons Sh.any (Sh.snd (Sh.cons Sh.any (Sh.snd (Sh.cons Sh.any (Sh.snd (Sh.cons Sh.any (Sh.snd (Sh.cons Sh.any (Sh.snd (Sh.cons Sh.any (Sh.snd (Sh.cons Sh.any (Sh.snd (Sh.cons Sh.any (Sh.snd (Sh.cons Sh.any (Sh.snd (Sh.cons Sh.any (Sh.snd (Sh.cons Sh.any (Sh.snd (Sh.cons Sh.any (Sh.snd (Sh.cons Sh.any (Sh.snd (Sh.cons Sh.any (Sh.snd (Sh.cons Sh.any (Sh.snd (Sh.cons Sh.any (Sh.snd (Sh.cons Sh.any (Sh.snd (Sh.cons Sh.any Sh.nil)))))))))))))))))))))))))))))))))))))))))))))))))))))) (Sh.snd (Sh.hfix 6 26 (Sh.snd (Sh.cons (Sh.osl 8) Sh.nil)) (Sh.hrow 8 38 (Sh.hfix 5 27 (Sh.fst (Sh.cons (Sh.int .i64) Sh.nil)) (Sh.hfix 4 4 (Sh.fst (Sh.cons Sh.bool Sh.nil)) (Sh.snd (Sh.hfix 2 26 (Sh.snd (Sh.cons (Sh.osl 3) Sh.nil)) (Sh.hfix 1 24 (Sh.cons (Sh.int .i64) (Sh.cons (Sh.int .i64) (Sh.cons (Sh.int .i64) (Sh.fst (Sh.cons (Sh.int .i64) Sh.nil))))) (Sh.fst (Sh.hrow 3 38 Sh.hnil)))))))))))))))
def F10246_y0 (v : (Int × Int × Bool) × (List (Int × Int × Bool)) × Int × Bool × (List (Int × Int × Bool)) × Int × Int × Int × Int) : Option ((Bool × Int × Bool × (List (Int × Int × Bool)) × (Int × Int × Int × Int) × List (Int × Int × Bool)) ⊕ (Bool × (List (Int × Int × Bool)) × Int × Bool × (Int × Int × Int × Int) × List (Int × Int × Bool))) :=
  (chk (decide (((v.2.1).length + (([v.1] : List (Int × Int × Bool))).length) * 24 ≤ 140737488355328))).bind fun _ =>
  let x51 : List (Int × Int × Bool) := (v.2.1 ++ ([v.1] : List (Int × Int × Bool)))
  bif (((x51).length : Int) == v.2.2.2.2.2.2.2.2) then
    some (.inl (false, ((0 : Int), (true, (x51, (v.2.2.2.2.2, v.2.2.2.2.1))))))
  else
    some (.inr (true, (x51, (v.2.2.1, (v.2.2.2.1, (v.2.2.2.2.2, v.2.2.2.2.1))))))

noncomputable def k10246_y0 : List (Known Try.prog E) := []
def ft10246_y0_0 : List Pat := [(.own 3 38), (.ptr 1 0 24 [.keep, .keep, .keep, .keep]), (.ptr 2 0 26 [(.own 8 38)]), (.ptr 4 0 4 [.keep]), (.ptr 5 0 27 [.keep]), (.ptr 6 0 26 [(.own 8 38)]), (.yld 0 10246 [.any, .any, (.ptr 1 0 24 []), .any, (.ptr 2 0 26 []), (.ptr 4 0 4 []), (.ptr 5 0 27 []), (.ptr 6 0 26 []), .any, .any, .any, .any, .any, .any, .any, .any, .any, .any, .any, .any, .any, .any, .any, .any, .any, .any, .any])]
def ft10246_y0_1 : List Pat := [(.own 3 38), (.ptr 1 0 24 [.keep, .keep, .keep, .keep]), (.ptr 2 0 26 [(.own 3 38)]), (.ptr 4 0 4 [.keep]), (.ptr 5 0 27 [.keep]), (.ptr 6 0 26 [(.own 8 38)]), (.yld 0 10246 [.any, .any, (.ptr 1 0 24 []), .any, (.ptr 2 0 26 []), (.ptr 4 0 4 []), (.ptr 5 0 27 []), (.ptr 6 0 26 []), .any, .any, .any, .any, .any, .any, .any, .any, .any, .any, .any, .any, .any, .any, .any, .any, .any, .any, .any])]
noncomputable def sy10246_y0 : Array Tmp × Code × Code := match todoAt (Try.f10.body.getD .skip) 6 with | .code (.rangeFunc _ ps aa bb) :: _ => (ps, aa, bb) | _ => (#[], .skip, .skip)
noncomputable def L10246_y0 (n id : Nat) (st : St G) : Option ((Bool × Int × Bool × (List (Int × Int × Bool)) × (Int × Int × Int × Int) × List (Int × Int × Bool)) ⊕ (Bool × (List (Int × Int × Bool)) × Int × Bool × (Int × Int × Int × Int) × List (Int × Int × Bool))) := none
set_option maxRecDepth 100000 in
theorem e10246_y0 (n : Nat) (v : (Int × Int × Bool) × (List (Int × Int × Bool)) × Int × Bool × (List (Int × Int × Bool)) × Int × Int × Int × Int) : ev Try.prog E (oracle k10246_y0) 27 (fun x => mem x []) (L10246_y0 n) (finB Try.prog [ft10246_y0_0, ft10246_y0_1] w10246_y0.alts) 4000 [.code sy10246_y0.2.1, .beginRound, .code sy10246_y0.2.2] (rndSt sy10246_y0.1.toList (v10246_y0.enc v)) = F10246_y0 v := by kernel_rfl
theorem ok10246_y0 : CalOk Try.prog E (.yl 10246) v10246_y0.enc F10246_y0 w10246_y0.enc :=
  round_known (key := 10246) (ps := sy10246_y0.1) (aa := sy10246_y0.2.1) (bb := sy10246_y0.2.2) (site_of (fn := Try.f10) (c := (Try.f10.body.getD .skip)) Try.func10 rfl (by kernel_rfl) (by kernel_rfl)) envOk (oracle_ok k10246_y0) mixed 27 v10246_y0 F10246_y0 w10246_y0 ft10246_y0_0 [ft10246_y0_0, ft10246_y0_1] (by kernel_rfl) [] 4000 L10246_y0 (by kernel_rfl)
    (fun _ h => nomatch h) (fun v _ h => ⟨0, (e10246_y0 _ v).trans h⟩) (fun _ => by kernel_rfl) (by kernel_rfl) (fun _ => by kernel_rfl) (fun _ r => by rcases r with r | r <;> kernel_rfl)
/- (chicane/steward.Rules).given$1 -/
abbrev A44_0 : Type := (List (Int × Int × Int × Int)) × (Int × Int × Int × Int) × (List (Int × Int × Bool)) × Int × Bool × (List (Int × Int × Bool)) × Int × Int × Int × Int
abbrev R44_0 : Type := ((List (Int × Int × Int × Int)) × (Int × Int × Int × Int) × Int × Bool × (List (Int × Int × Bool)) × (Int × Int × Int × Int) × List (Int × Int × Bool)) ⊕ ((List (Int × Int × Int × Int)) × (Int × Int × Int × Int) × (List (Int × Int × Bool)) × Int × Bool × (Int × Int × Int × Int) × List (Int × Int × Bool))
def v44_0 : Pk G ((List (Int × Int × Int × Int)) × (Int × Int × Int × Int) × (List (Int × Int × Bool)) × Int × Bool × (List (Int × Int × Bool)) × Int × Int × Int × Int) := (Pk.snd (pk (Sh.snd (Sh.cons (Sh.yld 0) (Sh.snd (Sh.cons (Sh.ptr 8 0) (Sh.snd (Sh.cons (Sh.ptr 9 0) Sh.nil)))))) (Sh.hfix 9 25 (Sh.fst (Sh.cons (Sh.ros 43) Sh.nil)) (Sh.hfix 8 24 (Sh.cons (Sh.int .i64) (Sh.cons (Sh.int .i64) (Sh.cons (Sh.int .i64) (Sh.fst (Sh.cons (Sh.int .i64) Sh.nil))))) (Sh.snd (Sh.hlp 0 10246 .ready (Sh.snd (Sh.cons Sh.any (Sh.snd (Sh.cons Sh.any (Sh.snd (Sh.cons (Sh.ptr 1 0) (Sh.snd (Sh.cons Sh.any (Sh.snd (Sh.cons (Sh.ptr 2 0) (Sh.snd (Sh.cons (Sh.ptr 4 0) (Sh.snd (Sh.cons (Sh.ptr 5 0) (Sh.snd (Sh.cons (Sh.ptr 6 0) (Sh.snd (Sh.cons Sh.any (Sh.snd (Sh.cons Sh.any (Sh.snd (Sh.cons Sh.any (Sh.snd (Sh.cons Sh.any (Sh.snd (Sh.cons Sh.any (Sh.snd (Sh.cons Sh.any (Sh.snd (Sh.cons Sh.any (Sh.snd (Sh.cons Sh.any (Sh.snd (Sh.cons Sh.any (Sh.snd (Sh.cons Sh.any (Sh.snd (Sh.cons Sh.any (Sh.snd (Sh.cons Sh.any (Sh.snd (Sh.cons Sh.any (Sh.snd (Sh.cons Sh.any (Sh.snd (Sh.cons Sh.any (Sh.snd (Sh.cons Sh.any (Sh.snd (Sh.cons Sh.any (Sh.snd (Sh.cons Sh.any (Sh.snd (Sh.cons Sh.any Sh.nil)))))))))))))))))))))))))))))))))))))))))))))))))))))) (Sh.snd (Sh.hfix 6 26 (Sh.snd (Sh.cons (Sh.osl 7) Sh.nil)) (Sh.hrow 7 38 (Sh.hfix 5 27 (Sh.fst (Sh.cons (Sh.int .i64) Sh.nil)) (Sh.hfix 4 4 (Sh.fst (Sh.cons Sh.bool Sh.nil)) (Sh.snd (Sh.hfix 2 26 (Sh.snd (Sh.cons (Sh.osl 3) Sh.nil)) (Sh.hrow 3 38 (Sh.fst (Sh.hfix 1 24 (Sh.cons (Sh.int .i64) (Sh.cons (Sh.int .i64) (Sh.cons (Sh.int .i64) (Sh.fst (Sh.cons (Sh.int .i64) Sh.nil))))) Sh.hnil))))))))))))))))
def w44_0 : Wk G (((List (Int × Int × Int × Int)) × (Int × Int × Int × Int) × Int × Bool × (List (Int × Int × Bool)) × (Int × Int × Int × Int) × List (Int × Int × Bool)) ⊕ ((List (Int × Int × Int × Int)) × (Int × Int × Int × Int) × (List (Int × Int × Bool)) × Int × Bool × (Int × Int × Int × Int) × List (Int × Int × Bool))) := (Wk.alt (Wk.one [] (Pk.snd (pk Sh.nil (Sh.hfix 9 25 (Sh.fst (Sh.cons (Sh.ros 43) Sh.nil)) (Sh.hfix 8 24 (Sh.cons (Sh.int .i64) (Sh.cons (Sh.int .i64) (Sh.cons (Sh.int .i64) (Sh.fst (Sh.cons (Sh.int .i64) Sh.nil))))) (Sh.snd (Sh.hlp 0 10246 (.done .ret) (Sh.snd (Sh.cons Sh.any (Sh.snd (Sh.cons Sh.any (Sh.snd (Sh.cons (Sh.ptr 1 0) (Sh.snd (Sh.cons Sh.any (Sh.snd (Sh.cons (Sh.ptr 2 0) (Sh.snd (Sh.cons (Sh.ptr 4 0) (Sh.snd (Sh.cons (Sh.ptr 5 0) (Sh.snd (Sh.cons (Sh.ptr 6 0) (Sh.snd (Sh.cons Sh.any (Sh.snd (Sh.cons Sh.any (Sh.snd (Sh.cons Sh.any (Sh.snd (Sh.cons Sh.any (Sh.snd (Sh.cons Sh.any (Sh.snd (Sh.cons Sh.any (Sh.snd (Sh.cons Sh.any (Sh.snd (Sh.cons Sh.any (Sh.snd (Sh.cons Sh.any (Sh.snd (Sh.cons Sh.any (Sh.snd (Sh.cons Sh.any (Sh.snd (Sh.cons Sh.any (Sh.snd (Sh.cons Sh.any (Sh.snd (Sh.cons Sh.any (Sh.snd (Sh.cons Sh.any (Sh.snd (Sh.cons Sh.any (Sh.snd (Sh.cons Sh.any (Sh.snd (Sh.cons Sh.any (Sh.snd (Sh.cons Sh.any Sh.nil)))))))))))))))))))))))))))))))))))))))))))))))))))))) (Sh.snd (Sh.hfix 6 26 (Sh.snd (Sh.cons (Sh.osl 10) Sh.nil)) (Sh.hfix 5 27 (Sh.fst (Sh.cons (Sh.int .i64) Sh.nil)) (Sh.hfix 4 4 (Sh.fst (Sh.cons Sh.bool Sh.nil)) (Sh.snd (Sh.hfix 2 26 (Sh.snd (Sh.cons (Sh.osl 10) Sh.nil)) (Sh.hrow 10 38 (Sh.hfix 1 24 (Sh.cons (Sh.int .i64) (Sh.cons (Sh.int .i64) (Sh.cons (Sh.int .i64) (Sh.fst (Sh.cons (Sh.int .i64) Sh.nil))))) (Sh.fst (Sh.hrow 3 38 Sh.hnil))))))))))))))))) (Wk.one [] (Pk.snd (pk Sh.nil (Sh.hfix 9 25 (Sh.fst (Sh.cons (Sh.ros 43) Sh.nil)) (Sh.hfix 8 24 (Sh.cons (Sh.int .i64) (Sh.cons (Sh.int .i64) (Sh.cons (Sh.int .i64) (Sh.fst (Sh.cons (Sh.int .i64) Sh.nil))))) (Sh.snd (Sh.hlp 0 10246 .ready (Sh.snd (Sh.cons Sh.any (Sh.snd (Sh.cons Sh.any (Sh.snd (Sh.cons (Sh.ptr 1 0) (Sh.snd (Sh.cons Sh.any (Sh.snd (Sh.cons (Sh.ptr 2 0) (Sh.snd (Sh.cons (Sh.ptr 4 0) (Sh.snd (Sh.cons (Sh.ptr 5 0) (Sh.snd (Sh.cons (Sh.ptr 6 0) (Sh.snd (Sh.cons Sh.any (Sh.snd (Sh.cons Sh.any (Sh.snd (Sh.cons Sh.any (Sh.snd (Sh.cons Sh.any (Sh.snd (Sh.cons Sh.any (Sh.snd (Sh.cons Sh.any (Sh.snd (Sh.cons Sh.any (Sh.snd (Sh.cons Sh.any (Sh.snd (Sh.cons Sh.any (Sh.snd (Sh.cons Sh.any (Sh.snd (Sh.cons Sh.any (Sh.snd (Sh.cons Sh.any (Sh.snd (Sh.cons Sh.any (Sh.snd (Sh.cons Sh.any (Sh.snd (Sh.cons Sh.any (Sh.snd (Sh.cons Sh.any (Sh.snd (Sh.cons Sh.any (Sh.snd (Sh.cons Sh.any (Sh.snd (Sh.cons Sh.any Sh.nil)))))))))))))))))))))))))))))))))))))))))))))))))))))) (Sh.snd (Sh.hfix 6 26 (Sh.snd (Sh.cons (Sh.osl 10) Sh.nil)) (Sh.hrow 10 38 (Sh.hfix 5 27 (Sh.fst (Sh.cons (Sh.int .i64) Sh.nil)) (Sh.hfix 4 4 (Sh.fst (Sh.cons Sh.bool Sh.nil)) (Sh.snd (Sh.hfix 2 26 (Sh.snd (Sh.cons (Sh.osl 3) Sh.nil)) (Sh.hfix 1 24 (Sh.cons (Sh.int .i64) (Sh.cons (Sh.int .i64) (Sh.cons (Sh.int .i64) (Sh.fst (Sh.cons (Sh.int .i64) Sh.nil))))) (Sh.fst (Sh.hrow 3 38 Sh.hnil))))))))))))))))))
def c44_0_3 : Pk G ((Int × (List (Int × Int × Int × Int)) × Int × Int) × (Int × Int × Int × Int) × (List (Int × Int × Int × Int)) × (Int × Int × Int × Int) × (List (Int × Int × Bool)) × Int × Bool × (Int × Int × Int × Int) × List (Int × Int × Bool)) := (pk (Sh.snd (Sh.cons (Sh.yld 0) (Sh.snd (Sh.cons (Sh.ptr 8 0) (Sh.cons (Sh.int .i64) (Sh.snd (Sh.cons (Sh.ptr 11 0) (Sh.cons (Sh.ros 43) (Sh.cons (Sh.int .i64) (Sh.fst (Sh.cons (Sh.int .i64) Sh.nil))))))))))) (Sh.hfix 11 43 (Sh.cons (Sh.int .i64) (Sh.cons (Sh.int .i64) (Sh.cons (Sh.int .i64) (Sh.fst (Sh.cons (Sh.int .i64) Sh.nil))))) (Sh.hfix 9 25 (Sh.fst (Sh.cons (Sh.ros 43) Sh.nil)) (Sh.hfix 8 24 (Sh.cons (Sh.int .i64) (Sh.cons (Sh.int .i64) (Sh.cons (Sh.int .i64) (Sh.fst (Sh.cons (Sh.int .i64) Sh.nil))))) (Sh.snd (Sh.hlp 0 10246 .ready (Sh.snd (Sh.cons Sh.any (Sh.snd (Sh.cons Sh.any (Sh.snd (Sh.cons (Sh.ptr 1 0) (Sh.snd (Sh.cons Sh.any (Sh.snd (Sh.cons (Sh.ptr 2 0) (Sh.snd (Sh.cons (Sh.ptr 4 0) (Sh.snd (Sh.cons (Sh.ptr 5 0) (Sh.snd (Sh.cons (Sh.ptr 6 0) (Sh.snd (Sh.cons Sh.any (Sh.snd (Sh.cons Sh.any (Sh.snd (Sh.cons Sh.any (Sh.snd (Sh.cons Sh.any (Sh.snd (Sh.cons Sh.any (Sh.snd (Sh.cons Sh.any (Sh.snd (Sh.cons Sh.any (Sh.snd (Sh.cons Sh.any (Sh.snd (Sh.cons Sh.any (Sh.snd (Sh.cons Sh.any (Sh.snd (Sh.cons Sh.any (Sh.snd (Sh.cons Sh.any (Sh.snd (Sh.cons Sh.any (Sh.snd (Sh.cons Sh.any (Sh.snd (Sh.cons Sh.any (Sh.snd (Sh.cons Sh.any (Sh.snd (Sh.cons Sh.any (Sh.snd (Sh.cons Sh.any (Sh.snd (Sh.cons Sh.any Sh.nil)))))))))))))))))))))))))))))))))))))))))))))))))))))) (Sh.snd (Sh.hfix 6 26 (Sh.snd (Sh.cons (Sh.osl 10) Sh.nil)) (Sh.hrow 10 38 (Sh.hfix 5 27 (Sh.fst (Sh.cons (Sh.int .i64) Sh.nil)) (Sh.hfix 4 4 (Sh.fst (Sh.cons Sh.bool Sh.nil)) (Sh.snd (Sh.hfix 2 26 (Sh.snd (Sh.cons (Sh.osl 3) Sh.nil)) (Sh.hfix 1 24 (Sh.cons (Sh.int .i64) (Sh.cons (Sh.int .i64) (Sh.cons (Sh.int .i64) (Sh.fst (Sh.cons (Sh.int .i64) Sh.nil))))) (Sh.fst (Sh.hrow 3 38 Sh.hnil))))))))))))))))
def B44_0_3 (K : (((Int × (List (Int × Int × Int × Int)) × Int × Int) × (Int × Int × Int × Int) × (List (Int × Int × Int × Int)) × (Int × Int × Int × Int) × (List (Int × Int × Bool)) × Int × Bool × (Int × Int × Int × Int) × List (Int × Int × Bool)) → Option (((List (Int × Int × Int × Int)) × (Int × Int × Int × Int) × Int × Bool × (List (Int × Int × Bool)) × (Int × Int × Int × Int) × List (Int × Int × Bool)) ⊕ ((List (Int × Int × Int × Int)) × (Int × Int × Int × Int) × (List (Int × Int × Bool)) × Int × Bool × (Int × Int × Int × Int) × List (Int × Int × Bool))))) (v : (Int × (List (Int × Int × Int × Int)) × Int × Int) × (Int × Int × Int × Int) × (List (Int × Int × Int × Int)) × (Int × Int × Int × Int) × (List (Int × Int × Bool)) × Int × Bool × (Int × Int × Int × Int) × List (Int × Int × Bool)) : Option (((List (Int × Int × Int × Int)) × (Int × Int × Int × Int) × Int × Bool × (List (Int × Int × Bool)) × (Int × Int × Int × Int) × List (Int × Int × Bool)) ⊕ ((List (Int × Int × Int × Int)) × (Int × Int × Int × Int) × (List (Int × Int × Bool)) × Int × Bool × (Int × Int × Int × Int) × List (Int × Int × Bool))) :=
  bif (decide (v.1.2.2.2 < v.1.2.2.1)) then
    (rdx v.1.2.1 v.1.2.2.2).bind fun (x134 : Int × Int × Int × Int) =>
    bif (v.2.1.1 == (4 : Int)) then
      bif (v.2.1.2.2.1 == x134.2.2.1) then
        bif (x134.1 == (4 : Int)) then
          (F10246_y0 ((x134.2.2.1, (v.2.2.2.1.1, false)), (v.2.2.2.2.1, (v.2.2.2.2.2.1, (v.2.2.2.2.2.2.1, (v.2.2.2.2.2.2.2.2, v.2.2.2.2.2.2.2.1)))))).bind fun r135 =>
          match r135 with
          | .inl r136 =>
            bif (!r136.1) then
              some (.inl (v.2.2.1, (v.2.2.2.1, r136.2)))
            else
              none
          | .inr r137 =>
            bif (!r137.1) then
              some (.inr (v.2.2.1, (v.2.2.2.1, r137.2)))
            else
              let x139 : Int := (IntKind.wrap .i64 (v.1.2.2.2 + (1 : Int)))
              K ((v.1.1, (v.1.2.1, (v.1.2.2.1, x139))), (x134, (v.2.2.1, (v.2.2.2.1, r137.2))))
        else
          bif (x134.1 != (5 : Int)) then
            let x140 : Int := (IntKind.wrap .i64 (v.1.2.2.2 + (1 : Int)))
            K ((v.1.1, (v.1.2.1, (v.1.2.2.1, x140))), (x134, v.2.2))
          else
            bif (v.2.1.2.1 == x134.2.1) then
              let x141 : Int := (IntKind.wrap .i64 (v.1.2.2.2 + (1 : Int)))
              K ((v.1.1, (v.1.2.1, (v.1.2.2.1, x141))), (x134, v.2.2))
            else
              bif (decide (v.1.1 > (0 : Int))) then
                let x142 : Int := (IntKind.wrap .i64 (v.1.1 - (1 : Int)))
                let x143 : Int := (IntKind.wrap .i64 (v.1.2.2.2 + (1 : Int)))
                K ((x142, (v.1.2.1, (v.1.2.2.1, x143))), (x134, v.2.2))
              else
                (F10246_y0 ((x134.2.2.1, (v.2.2.2.1.2.1, true)), (v.2.2.2.2.1, (v.2.2.2.2.2.1, (v.2.2.2.2.2.2.1, (v.2.2.2.2.2.2.2.2, v.2.2.2.2.2.2.2.1)))))).bind fun r144 =>
                match r144 with
                | .inl r145 =>
                  bif (!r145.1) then
                    some (.inl (v.2.2.1, (v.2.2.2.1, r145.2)))
                  else
                    none
                | .inr r146 =>
                  bif (!r146.1) then
                    some (.inr (v.2.2.1, (v.2.2.2.1, r146.2)))
                  else
                    let x148 : Int := (IntKind.wrap .i64 (v.1.2.2.2 + (1 : Int)))
                    K ((v.1.1, (v.1.2.1, (v.1.2.2.1, x148))), (x134, (v.2.2.1, (v.2.2.2.1, r146.2))))
      else
        bif (x134.1 == (4 : Int)) then
          (F10246_y0 ((x134.2.2.1, (v.2.2.2.1.1, false)), (v.2.2.2.2.1, (v.2.2.2.2.2.1, (v.2.2.2.2.2.2.1, (v.2.2.2.2.2.2.2.2, v.2.2.2.2.2.2.2.1)))))).bind fun r149 =>
          match r149 with
          | .inl r150 =>
            bif (!r150.1) then
              some (.inl (v.2.2.1, (v.2.2.2.1, r150.2)))
            else
              none
          | .inr r151 =>
            bif (!r151.1) then
              some (.inr (v.2.2.1, (v.2.2.2.1, r151.2)))
            else
              let x153 : Int := (IntKind.wrap .i64 (v.1.2.2.2 + (1 : Int)))
              K ((v.1.1, (v.1.2.1, (v.1.2.2.1, x153))), (x134, (v.2.2.1, (v.2.2.2.1, r151.2))))
        else
          bif (x134.1 != (5 : Int)) then
            let x154 : Int := (IntKind.wrap .i64 (v.1.2.2.2 + (1 : Int)))
            K ((v.1.1, (v.1.2.1, (v.1.2.2.1, x154))), (x134, v.2.2))
          else
            bif (decide (v.1.1 > (0 : Int))) then
              let x155 : Int := (IntKind.wrap .i64 (v.1.1 - (1 : Int)))
              let x156 : Int := (IntKind.wrap .i64 (v.1.2.2.2 + (1 : Int)))
              K ((x155, (v.1.2.1, (v.1.2.2.1, x156))), (x134, v.2.2))
            else
              (F10246_y0 ((x134.2.2.1, (v.2.2.2.1.2.1, true)), (v.2.2.2.2.1, (v.2.2.2.2.2.1, (v.2.2.2.2.2.2.1, (v.2.2.2.2.2.2.2.2, v.2.2.2.2.2.2.2.1)))))).bind fun r157 =>
              match r157 with
              | .inl r158 =>
                bif (!r158.1) then
                  some (.inl (v.2.2.1, (v.2.2.2.1, r158.2)))
                else
                  none
              | .inr r159 =>
                bif (!r159.1) then
                  some (.inr (v.2.2.1, (v.2.2.2.1, r159.2)))
                else
                  let x161 : Int := (IntKind.wrap .i64 (v.1.2.2.2 + (1 : Int)))
                  K ((v.1.1, (v.1.2.1, (v.1.2.2.1, x161))), (x134, (v.2.2.1, (v.2.2.2.1, r159.2))))
    else
      bif (x134.1 == (4 : Int)) then
        (F10246_y0 ((x134.2.2.1, (v.2.2.2.1.1, false)), (v.2.2.2.2.1, (v.2.2.2.2.2.1, (v.2.2.2.2.2.2.1, (v.2.2.2.2.2.2.2.2, v.2.2.2.2.2.2.2.1)))))).bind fun r162 =>
        match r162 with
        | .inl r163 =>
          bif (!r163.1) then
            some (.inl (v.2.2.1, (v.2.2.2.1, r163.2)))
          else
            none
        | .inr r164 =>
          bif (!r164.1) then
            some (.inr (v.2.2.1, (v.2.2.2.1, r164.2)))
          else
            let x166 : Int := (IntKind.wrap .i64 (v.1.2.2.2 + (1 : Int)))
            K ((v.1.1, (v.1.2.1, (v.1.2.2.1, x166))), (x134, (v.2.2.1, (v.2.2.2.1, r164.2))))
      else
        bif (x134.1 != (5 : Int)) then
          let x167 : Int := (IntKind.wrap .i64 (v.1.2.2.2 + (1 : Int)))
          K ((v.1.1, (v.1.2.1, (v.1.2.2.1, x167))), (x134, v.2.2))
        else
          bif (decide (v.1.1 > (0 : Int))) then
            let x168 : Int := (IntKind.wrap .i64 (v.1.1 - (1 : Int)))
            let x169 : Int := (IntKind.wrap .i64 (v.1.2.2.2 + (1 : Int)))
            K ((x168, (v.1.2.1, (v.1.2.2.1, x169))), (x134, v.2.2))
          else
            (F10246_y0 ((x134.2.2.1, (v.2.2.2.1.2.1, true)), (v.2.2.2.2.1, (v.2.2.2.2.2.1, (v.2.2.2.2.2.2.1, (v.2.2.2.2.2.2.2.2, v.2.2.2.2.2.2.2.1)))))).bind fun r170 =>
            match r170 with
            | .inl r171 =>
              bif (!r171.1) then
                some (.inl (v.2.2.1, (v.2.2.2.1, r171.2)))
              else
                none
            | .inr r172 =>
              bif (!r172.1) then
                some (.inr (v.2.2.1, (v.2.2.2.1, r172.2)))
              else
                let x174 : Int := (IntKind.wrap .i64 (v.1.2.2.2 + (1 : Int)))
                K ((v.1.1, (v.1.2.1, (v.1.2.2.1, x174))), (x134, (v.2.2.1, (v.2.2.2.1, r172.2))))
  else
    some (.inr v.2.2)

def E44_0 (K : (((Int × (List (Int × Int × Int × Int)) × Int × Int) × (Int × Int × Int × Int) × (List (Int × Int × Int × Int)) × (Int × Int × Int × Int) × (List (Int × Int × Bool)) × Int × Bool × (Int × Int × Int × Int) × List (Int × Int × Bool)) → Option (((List (Int × Int × Int × Int)) × (Int × Int × Int × Int) × Int × Bool × (List (Int × Int × Bool)) × (Int × Int × Int × Int) × List (Int × Int × Bool)) ⊕ ((List (Int × Int × Int × Int)) × (Int × Int × Int × Int) × (List (Int × Int × Bool)) × Int × Bool × (Int × Int × Int × Int) × List (Int × Int × Bool))))) (v : (List (Int × Int × Int × Int)) × (Int × Int × Int × Int) × (List (Int × Int × Bool)) × Int × Bool × (List (Int × Int × Bool)) × Int × Int × Int × Int) : Option (((List (Int × Int × Int × Int)) × (Int × Int × Int × Int) × Int × Bool × (List (Int × Int × Bool)) × (Int × Int × Int × Int) × List (Int × Int × Bool)) ⊕ ((List (Int × Int × Int × Int)) × (Int × Int × Int × Int) × (List (Int × Int × Bool)) × Int × Bool × (Int × Int × Int × Int) × List (Int × Int × Bool))) :=
  K ((v.2.1.2.2.1, (v.1, (((v.1).length : Int), (0 : Int)))), (((0 : Int), ((0 : Int), ((0 : Int), (0 : Int)))), (v.1, (v.2.1, (v.2.2.1, (v.2.2.2.1, (v.2.2.2.2.1, (v.2.2.2.2.2.2, v.2.2.2.2.2.1))))))))

def K44_0 : Nat → (((Int × (List (Int × Int × Int × Int)) × Int × Int) × (Int × Int × Int × Int) × (List (Int × Int × Int × Int)) × (Int × Int × Int × Int) × (List (Int × Int × Bool)) × Int × Bool × (Int × Int × Int × Int) × List (Int × Int × Bool)) → Option (((List (Int × Int × Int × Int)) × (Int × Int × Int × Int) × Int × Bool × (List (Int × Int × Bool)) × (Int × Int × Int × Int) × List (Int × Int × Bool)) ⊕ ((List (Int × Int × Int × Int)) × (Int × Int × Int × Int) × (List (Int × Int × Bool)) × Int × Bool × (Int × Int × Int × Int) × List (Int × Int × Bool))))
  | 0 => (fun _ => none)
  | n + 1 => (B44_0_3 (K44_0 n))
def fuel44_0 (v : (List (Int × Int × Int × Int)) × (Int × Int × Int × Int) × (List (Int × Int × Bool)) × Int × Bool × (List (Int × Int × Bool)) × Int × Int × Int × Int) : Nat := 1000
def F44_0 (v : (List (Int × Int × Int × Int)) × (Int × Int × Int × Int) × (List (Int × Int × Bool)) × Int × Bool × (List (Int × Int × Bool)) × Int × Int × Int × Int) : Option (((List (Int × Int × Int × Int)) × (Int × Int × Int × Int) × Int × Bool × (List (Int × Int × Bool)) × (Int × Int × Int × Int) × List (Int × Int × Bool)) ⊕ ((List (Int × Int × Int × Int)) × (Int × Int × Int × Int) × (List (Int × Int × Bool)) × Int × Bool × (Int × Int × Int × Int) × List (Int × Int × Bool))) := E44_0 (K44_0 (fuel44_0 v)) v
noncomputable def k44_0 : List (Known Try.prog E) := [Known.ofR envOk [13, 9] [(.yld 0 10246 [.any, .any, (.ptr 1 0 24 [.keep, .keep, .keep, .keep]), .any, (.ptr 2 0 26 [(.own 3 38)]), (.ptr 4 0 4 [.keep]), (.ptr 5 0 27 [.keep]), (.ptr 6 0 26 [(.own 7 38)]), .any, .any, .any, .any, .any, .any, .any, .any, .any, .any, .any, .any, .any, .any, .any, .any, .any, .any, .any]), (.agg [.keep, .keep, .keep])] v10246_y0 F10246_y0 w10246_y0 ok10246_y0]
def ft44_0_0 : List Pat := [(.own 3 38), (.ptr 1 0 24 [.keep, .keep, .keep, .keep]), (.ptr 2 0 26 [(.own 10 38)]), (.ptr 4 0 4 [.keep]), (.ptr 5 0 27 [.keep]), (.ptr 6 0 26 [(.own 10 38)]), (.yld 0 10246 [.any, .any, (.ptr 1 0 24 []), .any, (.ptr 2 0 26 []), (.ptr 4 0 4 []), (.ptr 5 0 27 []), (.ptr 6 0 26 []), .any, .any, .any, .any, .any, .any, .any, .any, .any, .any, .any, .any, .any, .any, .any, .any, .any, .any, .any]), (.ptr 8 0 24 [.keep, .keep, .keep, .keep]), (.ptr 9 0 25 [(.ros 43)])]
def ft44_0_1 : List Pat := [(.own 3 38), (.ptr 1 0 24 [.keep, .keep, .keep, .keep]), (.ptr 2 0 26 [(.own 3 38)]), (.ptr 4 0 4 [.keep]), (.ptr 5 0 27 [.keep]), (.ptr 6 0 26 [(.own 10 38)]), (.yld 0 10246 [.any, .any, (.ptr 1 0 24 []), .any, (.ptr 2 0 26 []), (.ptr 4 0 4 []), (.ptr 5 0 27 []), (.ptr 6 0 26 []), .any, .any, .any, .any, .any, .any, .any, .any, .any, .any, .any, .any, .any, .any, .any, .any, .any, .any, .any]), (.ptr 8 0 24 [.keep, .keep, .keep, .keep]), (.ptr 9 0 25 [(.ros 43)])]
def s44_0_3 : List (Nat × Pat) := [(0, (.yld 0 10246 [])), (1, (.ptr 8 0 24 [])), (4, .keep), (5, (.ptr 11 0 43 [.keep, .keep, .keep, .keep])), (11, (.ros 43)), (12, .keep), (13, .keep)]
noncomputable def L44_0 (n id : Nat) (st : St G) : Option (((List (Int × Int × Int × Int)) × (Int × Int × Int × Int) × Int × Bool × (List (Int × Int × Bool)) × (Int × Int × Int × Int) × List (Int × Int × Bool)) ⊕ ((List (Int × Int × Int × Int)) × (Int × Int × Int × Int) × (List (Int × Int × Bool)) × Int × Bool × (Int × Int × Int × Int) × List (Int × Int × Bool))) := match Nat.beq id 3 with | true => cutK Try.prog s44_0_3 ft44_0_1 c44_0_3.dec (K44_0 n) st | false => none
set_option maxRecDepth 100000 in
theorem e44_0 (n : Nat) (v : (List (Int × Int × Int × Int)) × (Int × Int × Int × Int) × (List (Int × Int × Bool)) × Int × Bool × (List (Int × Int × Bool)) × Int × Int × Int × Int) : ev Try.prog E (oracle k44_0) Try.f44.ntmps (fun x => mem x [3]) (L44_0 n) (finF Try.prog E Try.f44.results.toList [ft44_0_0, ft44_0_1] w44_0.alts) 4000 [.code (Try.f44.body.getD .skip)] (argSt (v44_0.enc v)) = E44_0 (K44_0 n) v := by kernel_rfl
set_option maxRecDepth 100000 in
theorem b44_0_3 (n : Nat) (v : (Int × (List (Int × Int × Int × Int)) × Int × Int) × (Int × Int × Int × Int) × (List (Int × Int × Int × Int)) × (Int × Int × Int × Int) × (List (Int × Int × Bool)) × Int × Bool × (Int × Int × Int × Int) × List (Int × Int × Bool)) : evCut Try.prog E (oracle k44_0) false 44 Try.f44.ntmps (fun x => mem x [3]) (L44_0 n) (finF Try.prog E Try.f44.results.toList [ft44_0_0, ft44_0_1] w44_0.alts) 4000 (todoAt (Try.f44.body.getD .skip) 3) (cutSt s44_0_3 (c44_0_3.enc v)) = B44_0_3 (K44_0 n) v := by kernel_rfl
theorem ql44_0_3 : ∀ n st, L44_0 n 3 st = cutK Try.prog s44_0_3 ft44_0_1 c44_0_3.dec (K44_0 n) st := fun _ _ => rfl
theorem qz44_0_3 : ∀ v, (K44_0 0) v = none := fun _ => rfl
theorem qe44_0_3 : ∀ n v r, (K44_0 (n + 1)) v = some r → evCut Try.prog E (oracle k44_0) false 44 Try.f44.ntmps (fun x => mem x [3]) (L44_0 n) (finF Try.prog E Try.f44.results.toList [ft44_0_0, ft44_0_1] w44_0.alts) 4000 ((lk (cutsC (Try.f44.body.getD .skip) []) 3).getD []) (cutSt s44_0_3 (c44_0_3.enc v)) = some r := fun n v _ h => (b44_0_3 n v).trans h
theorem qc44_0_3 : CutOk Try.prog E (oracle k44_0) false 44 Try.f44.ntmps [3] (finF Try.prog E Try.f44.results.toList [ft44_0_0, ft44_0_1] w44_0.alts) 4000 (cutsC (Try.f44.body.getD .skip) []) ft44_0_0 L44_0 3 := ⟨_, ft44_0_1, s44_0_3, c44_0_3.dec, c44_0_3.enc, fun n => (K44_0 n), c44_0_3.ok, ql44_0_3, qz44_0_3, by kernel_rfl, qe44_0_3⟩
set_option maxHeartbeats 4000000 in
theorem ok44_0 : FnOk Try.prog E 44 v44_0.enc F44_0 w44_0.enc :=
  fn_known (fn := Try.f44) (c := (Try.f44.body.getD .skip)) Try.func44 (by kernel_rfl) rfl envOk (oracle_ok k44_0) mixed v44_0 F44_0 w44_0 ft44_0_0 [ft44_0_0, ft44_0_1] (by kernel_rfl) [3] 4000 L44_0 (by kernel_rfl)
    (List.forall_mem_cons.2 ⟨qc44_0_3, fun _ h => (nomatch h)⟩) (fun v _ h => ⟨fuel44_0 v, (e44_0 _ v).trans h⟩) (fun _ => by kernel_rfl) (fun _ => by kernel_rfl) (fun _ r => by rcases r with r | r <;> kernel_rfl)
/- chicane/steward.Judge -/
abbrev A10_0 : Type := (Int × Int × Int × Int) × List (Int × Int × Int × Int)
abbrev R10_0 : Type := (Bool × Int) × List (Int × Int × Bool)
def v10_0 : Pk G ((Int × Int × Int × Int) × List (Int × Int × Int × Int)) := (Pk.fst (pk (Sh.cons (Sh.agg (Sh.cons (Sh.int .i64) (Sh.cons (Sh.int .i64) (Sh.cons (Sh.int .i64) (Sh.fst (Sh.cons (Sh.int .i64) Sh.nil)))))) (Sh.fst (Sh.cons (Sh.ros 43) Sh.nil))) Sh.hnil))
def w10_0 : Wk G ((Bool × Int) × List (Int × Int × Bool)) := (Wk.one [(.own 0 38), .keep, .keep] (pk (Sh.snd (Sh.cons (Sh.osl 0) (Sh.cons Sh.bool (Sh.fst (Sh.cons (Sh.int .i64) Sh.nil))))) (Sh.fst (Sh.hrow 0 38 Sh.hnil))))
def c10_0_6 : Pk G ((List (Int × Int × Int × Int)) × (Int × Int × Int × Int) × (List (Int × Int × Bool)) × Int × Bool × (List (Int × Int × Bool)) × Int × Int × Int × Int) := (Pk.snd (pk (Sh.snd (Sh.cons (Sh.ptr 0 0) (Sh.snd (Sh.cons (Sh.ptr 1 0) (Sh.snd (Sh.cons (Sh.ptr 3 0) (Sh.snd (Sh.cons (Sh.ptr 4 0) (Sh.snd (Sh.cons (Sh.ptr 5 0) (Sh.snd (Sh.cons (Sh.snd (Sh.fn (.func 44) Sh.nil (Sh.snd (Sh.cons (Sh.ptr 7 0) (Sh.snd (Sh.cons (Sh.ptr 8 0) Sh.nil)))))) Sh.nil)))))))))))) (Sh.hfix 8 25 (Sh.fst (Sh.cons (Sh.ros 43) Sh.nil)) (Sh.hfix 7 24 (Sh.cons (Sh.int .i64) (Sh.cons (Sh.int .i64) (Sh.cons (Sh.int .i64) (Sh.fst (Sh.cons (Sh.int .i64) Sh.nil))))) (Sh.snd (Sh.hfix 5 26 (Sh.snd (Sh.cons (Sh.osl 6) Sh.nil)) (Sh.hrow 6 38 (Sh.hfix 4 27 (Sh.fst (Sh.cons (Sh.int .i64) Sh.nil)) (Sh.hfix 3 4 (Sh.fst (Sh.cons Sh.bool Sh.nil)) (Sh.snd (Sh.hfix 1 26 (Sh.snd (Sh.cons (Sh.osl 2) Sh.nil)) (Sh.hrow 2 38 (Sh.fst (Sh.hfix 0 24 (Sh.cons (Sh.int .i64) (Sh.cons (Sh.int .i64) (Sh.cons (Sh.int .i64) (Sh.fst (Sh.cons (Sh.int .i64) Sh.nil))))) Sh.hnil))))))))))))))
def B10_0_6 (K : (((List (Int × Int × Int × Int)) × (Int × Int × Int × Int) × (List (Int × Int × Bool)) × Int × Bool × (List (Int × Int × Bool)) × Int × Int × Int × Int) → Option ((Bool × Int) × List (Int × Int × Bool)))) (v : (List (Int × Int × Int × Int)) × (Int × Int × Int × Int) × (List (Int × Int × Bool)) × Int × Bool × (List (Int × Int × Bool)) × Int × Int × Int × Int) : Option ((Bool × Int) × List (Int × Int × Bool)) :=
  (F44_0 v).bind fun r186 =>
  match r186 with
  | .inl r187 =>
    some ((r187.2.2.2.1, r187.2.2.1), r187.2.2.2.2.1)
  | .inr r188 =>
    some ((false, (0 : Int)), r188.2.2.1)

def E10_0 (K : (((List (Int × Int × Int × Int)) × (Int × Int × Int × Int) × (List (Int × Int × Bool)) × Int × Bool × (List (Int × Int × Bool)) × Int × Int × Int × Int) → Option ((Bool × Int) × List (Int × Int × Bool)))) (v : (Int × Int × Int × Int) × List (Int × Int × Int × Int)) : Option ((Bool × Int) × List (Int × Int × Bool)) :=
  (F30_0 v.1).bind fun r184 =>
  bif (!r184) then
    some ((false, (40 : Int)), ([] : List (Int × Int × Bool)))
  else
    (F31_0 v).bind fun r185 =>
    K (r185.1, (r185.2, (([] : List (Int × Int × Bool)), ((0 : Int), (false, (([] : List (Int × Int × Bool)), v.1))))))

def K10_0 : Nat → (((List (Int × Int × Int × Int)) × (Int × Int × Int × Int) × (List (Int × Int × Bool)) × Int × Bool × (List (Int × Int × Bool)) × Int × Int × Int × Int) → Option ((Bool × Int) × List (Int × Int × Bool)))
  | 0 => (fun _ => none)
  | n + 1 => (B10_0_6 (K10_0 n))
def fuel10_0 (v : (Int × Int × Int × Int) × List (Int × Int × Int × Int)) : Nat := 1000
def F10_0 (v : (Int × Int × Int × Int) × List (Int × Int × Int × Int)) : Option ((Bool × Int) × List (Int × Int × Bool)) := E10_0 (K10_0 (fuel10_0 v)) v
noncomputable def k10_0 : List (Known Try.prog E) := [Known.of envOk [9] [(.agg [.keep, .keep, .keep, .keep])] v30_0 F30_0 w30_0 ok30_0, Known.of envOk [9, 7] [(.agg [.keep, .keep, .keep, .keep]), (.ros 43)] v31_0 F31_0 w31_0 ok31_0, Known.of envOk [13, 5, 5] [(.yld 0 10246 [.any, .any, (.ptr 1 0 24 [.keep, .keep, .keep, .keep]), .any, (.ptr 2 0 26 [(.own 3 38)]), (.ptr 4 0 4 [.keep]), (.ptr 5 0 27 [.keep]), (.ptr 6 0 26 [(.own 7 38)]), .any, .any, .any, .any, .any, .any, .any, .any, .any, .any, .any, .any, .any, .any, .any, .any, .any, .any, .any]), (.ptr 8 0 24 [.keep, .keep, .keep, .keep]), (.ptr 9 0 25 [(.ros 43)])] v44_0 F44_0 w44_0 ok44_0]
def s10_0_6 : List (Nat × Pat) := [(2, (.ptr 0 0 24 [.keep, .keep, .keep, .keep])), (4, (.ptr 1 0 26 [(.own 2 38)])), (5, (.ptr 3 0 4 [.keep])), (6, (.ptr 4 0 27 [.keep])), (7, (.ptr 5 0 26 [(.own 6 38)])), (14, (.fn (.func 44) [] [(.ptr 7 0 24 [.keep, .keep, .keep, .keep]), (.ptr 8 0 25 [(.ros 43)])]))]
noncomputable def L10_0 (n id : Nat) (st : St G) : Option ((Bool × Int) × List (Int × Int × Bool)) := match Nat.beq id 6 with | true => cutK Try.prog s10_0_6 [] c10_0_6.dec (K10_0 n) st | false => none
set_option maxRecDepth 100000 in
theorem e10_0 (n : Nat) (v : (Int × Int × Int × Int) × List (Int × Int × Int × Int)) : ev Try.prog E (oracle k10_0) Try.f10.ntmps (fun x => mem x [6]) (L10_0 n) (finF Try.prog E Try.f10.results.toList [[]] w10_0.alts) 4000 [.code (Try.f10.body.getD .skip)] (argSt (v10_0.enc v)) = E10_0 (K10_0 n) v := by kernel_rfl
set_option maxRecDepth 100000 in
theorem b10_0_6 (n : Nat) (v : (List (Int × Int × Int × Int)) × (Int × Int × Int × Int) × (List (Int × Int × Bool)) × Int × Bool × (List (Int × Int × Bool)) × Int × Int × Int × Int) : evCut Try.prog E (oracle k10_0) false 10 Try.f10.ntmps (fun x => mem x [6]) (L10_0 n) (finF Try.prog E Try.f10.results.toList [[]] w10_0.alts) 4000 (todoAt (Try.f10.body.getD .skip) 6) (cutSt s10_0_6 (c10_0_6.enc v)) = B10_0_6 (K10_0 n) v := by kernel_rfl
theorem ok10_0 : FnOk Try.prog E 10 v10_0.enc F10_0 w10_0.enc :=
  fn_known (fn := Try.f10) (c := (Try.f10.body.getD .skip)) Try.func10 (by kernel_rfl) rfl envOk (oracle_ok k10_0) mixed v10_0 F10_0 w10_0 [] [[]] (by kernel_rfl) [6] 4000 L10_0 (by kernel_rfl)
    (List.forall_mem_cons.2 ⟨⟨_, [], s10_0_6, c10_0_6.dec, c10_0_6.enc, fun n => (K10_0 n), c10_0_6.ok, fun _ _ => rfl, fun _ => rfl, by kernel_rfl, fun n v _ h => (b10_0_6 n v).trans h⟩, fun _ h => (nomatch h)⟩) (fun v _ h => ⟨fuel10_0 v, (e10_0 _ v).trans h⟩) (fun _ => by kernel_rfl) (fun _ => by kernel_rfl) (fun _ _ => by kernel_rfl)
/- (chicane/steward.Rules).finish$1 -/
abbrev A47_0 : Type := Int × Int × Int × Int
abbrev R47_0 : Type := Bool
def v47_0 : Pk G (Int × Int × Int × Int) := (Pk.fst (pk (Sh.fst (Sh.cons (Sh.agg (Sh.cons (Sh.int .i64) (Sh.cons (Sh.int .i64) (Sh.cons (Sh.int .i64) (Sh.fst (Sh.cons (Sh.int .i64) Sh.nil)))))) Sh.nil)) Sh.hnil))
def w47_0 : Wk G Bool := (Wk.one [.keep] (Pk.fst (pk (Sh.fst (Sh.cons Sh.bool Sh.nil)) Sh.hnil)))
def F47_0 (v : Int × Int × Int × Int) : Option Bool :=
  some (v.1 == (6 : Int))

noncomputable def k47_0 : List (Known Try.prog E) := []
noncomputable def L47_0 (n id : Nat) (st : St G) : Option Bool := none
set_option maxRecDepth 100000 in
theorem e47_0 (n : Nat) (v : Int × Int × Int × Int) : ev Try.prog E (oracle k47_0) Try.f47.ntmps (fun x => mem x []) (L47_0 n) (finF Try.prog E Try.f47.results.toList [[]] w47_0.alts) 4000 [.code (Try.f47.body.getD .skip)] (argSt (v47_0.enc v)) = F47_0 v := by kernel_rfl
theorem ok47_0 : FnOk Try.prog E 47 v47_0.enc F47_0 w47_0.enc :=
  fn_known (fn := Try.f47) (c := (Try.f47.body.getD .skip)) Try.func47 (by kernel_rfl) rfl envOk (oracle_ok k47_0) mixed v47_0 F47_0 w47_0 [] [[]] (by kernel_rfl) [] 4000 L47_0 (by kernel_rfl)
    (fun _ h => nomatch h) (fun v _ h => ⟨0, (e47_0 _ v).trans h⟩) (fun _ => by kernel_rfl) (fun _ => by kernel_rfl) (fun _ _ => by kernel_rfl)
/- slices.IndexFunc[[]chicane/api.Event,chicane/api.Event] -/
abbrev A46_0 : Type := List (Int × Int × Int × Int)
abbrev R46_0 : Type := Int
def v46_0 : Pk G (List (Int × Int × Int × Int)) := (Pk.fst (pk (Sh.fst (Sh.cons (Sh.ros 43) (Sh.snd (Sh.cons (Sh.snd (Sh.fn (.func 47) Sh.nil Sh.nil)) Sh.nil)))) Sh.hnil))
def w46_0 : Wk G Int := (Wk.one [.keep] (Pk.fst (pk (Sh.fst (Sh.cons (Sh.int .i64) Sh.nil)) Sh.hnil)))
def c46_0_2 : Pk G ((List (Int × Int × Int × Int)) × Int × Int) := (Pk.fst (pk (Sh.cons (Sh.ros 43) (Sh.snd (Sh.cons (Sh.snd (Sh.fn (.func 47) Sh.nil Sh.nil)) (Sh.cons (Sh.int .i64) (Sh.fst (Sh.cons (Sh.int .i64) Sh.nil)))))) Sh.hnil))
def B46_0_2 (K : (((List (Int × Int × Int × Int)) × Int × Int) → Option Int)) (v : (List (Int × Int × Int × Int)) × Int × Int) : Option Int :=
  bif (decide (v.2.2 < v.2.1)) then
    (rdx v.1 v.2.2).bind fun (x198 : Int × Int × Int × Int) =>
    (F47_0 x198).bind fun r199 =>
    bif r199 then
      some (v.2.2)
    else
      let x200 : Int := (IntKind.wrap .i64 (v.2.2 + (1 : Int)))
      K (v.1, (v.2.1, x200))
  else
    some (-1 : Int)

def E46_0 (K : (((List (Int × Int × Int × Int)) × Int × Int) → Option Int)) (v : List (Int × Int × Int × Int)) : Option Int :=
  K (v, (((v).length : Int), (0 : Int)))

def K46_0 : Nat → (((List (Int × Int × Int × Int)) × Int × Int) → Option Int)
  | 0 => (fun _ => none)
  | n + 1 => (B46_0_2 (K46_0 n))
def fuel46_0 (v : List (Int × Int × Int × Int)) : Nat := 1000
def F46_0 (v : List (Int × Int × Int × Int)) : Option Int := E46_0 (K46_0 (fuel46_0 v)) v
noncomputable def k46_0 : List (Known Try.prog E) := [Known.of envOk [9] [(.agg [.keep, .keep, .keep, .keep])] v47_0 F47_0 w47_0 ok47_0]
def s46_0_2 : List (Nat × Pat) := [(0, (.ros 43)), (1, (.fn (.func 47) [] [])), (7, .keep), (8, .keep)]
noncomputable def L46_0 (n id : Nat) (st : St G) : Option Int := match Nat.beq id 2 with | true => cutK Try.prog s46_0_2 [] c46_0_2.dec (K46_0 n) st | false => none
set_option maxRecDepth 100000 in
theorem e46_0 (n : Nat) (v : List (Int × Int × Int × Int)) : ev Try.prog E (oracle k46_0) Try.f46.ntmps (fun x => mem x [2]) (L46_0 n) (finF Try.prog E Try.f46.results.toList [[]] w46_0.alts) 4000 [.code (Try.f46.body.getD .skip)] (argSt (v46_0.enc v)) = E46_0 (K46_0 n) v := by kernel_rfl
set_option maxRecDepth 100000 in
theorem b46_0_2 (n : Nat) (v : (List (Int × Int × Int × Int)) × Int × Int) : evCut Try.prog E (oracle k46_0) false 46 Try.f46.ntmps (fun x => mem x [2]) (L46_0 n) (finF Try.prog E Try.f46.results.toList [[]] w46_0.alts) 4000 (todoAt (Try.f46.body.getD .skip) 2) (cutSt s46_0_2 (c46_0_2.enc v)) = B46_0_2 (K46_0 n) v := by kernel_rfl
theorem ok46_0 : FnOk Try.prog E 46 v46_0.enc F46_0 w46_0.enc :=
  fn_known (fn := Try.f46) (c := (Try.f46.body.getD .skip)) Try.func46 (by kernel_rfl) rfl envOk (oracle_ok k46_0) mixed v46_0 F46_0 w46_0 [] [[]] (by kernel_rfl) [2] 4000 L46_0 (by kernel_rfl)
    (List.forall_mem_cons.2 ⟨⟨_, [], s46_0_2, c46_0_2.dec, c46_0_2.enc, fun n => (K46_0 n), c46_0_2.ok, fun _ _ => rfl, fun _ => rfl, by kernel_rfl, fun n v _ h => (b46_0_2 n v).trans h⟩, fun _ h => (nomatch h)⟩) (fun v _ h => ⟨fuel46_0 v, (e46_0 _ v).trans h⟩) (fun _ => by kernel_rfl) (fun _ => by kernel_rfl) (fun _ _ => by kernel_rfl)
/- chicane/steward.Add -/
abbrev A13_0 : Type := List (Int × Int × Bool)
abbrev R13_0 : Type := Int
def v13_0 : Pk G (List (Int × Int × Bool)) := (Pk.fst (pk (Sh.fst (Sh.cons (Sh.ros 38) Sh.nil)) Sh.hnil))
def w13_0 : Wk G Int := (Wk.one [.keep] (Pk.fst (pk (Sh.fst (Sh.cons (Sh.int .i64) Sh.nil)) Sh.hnil)))
def c13_0_3 : Pk G (Int × (List (Int × Int × Bool)) × Int × Int) := (Pk.fst (pk (Sh.cons (Sh.int .i64) (Sh.cons (Sh.ros 38) (Sh.cons (Sh.int .i64) (Sh.fst (Sh.cons (Sh.int .i64) Sh.nil))))) Sh.hnil))
def B13_0_3 (K : ((Int × (List (Int × Int × Bool)) × Int × Int) → Option Int)) (v : Int × (List (Int × Int × Bool)) × Int × Int) : Option Int :=
  bif (decide (v.2.2.2 < v.2.2.1)) then
    (rdx v.2.1 v.2.2.2).bind fun (x211 : Int × Int × Bool) =>
    let x212 : Int := (IntKind.wrap .i64 (v.1 + x211.2.1))
    let x213 : Int := (IntKind.wrap .i64 (v.2.2.2 + (1 : Int)))
    K (x212, (v.2.1, (v.2.2.1, x213)))
  else
    some (v.1)

def E13_0 (K : ((Int × (List (Int × Int × Bool)) × Int × Int) → Option Int)) (v : List (Int × Int × Bool)) : Option Int :=
  K ((0 : Int), (v, (((v).length : Int), (0 : Int))))

def K13_0 : Nat → ((Int × (List (Int × Int × Bool)) × Int × Int) → Option Int)
  | 0 => (fun _ => none)
  | n + 1 => (B13_0_3 (K13_0 n))
def fuel13_0 (v : List (Int × Int × Bool)) : Nat := 1000
def F13_0 (v : List (Int × Int × Bool)) : Option Int := E13_0 (K13_0 (fuel13_0 v)) v
noncomputable def k13_0 : List (Known Try.prog E) := []
def s13_0_3 : List (Nat × Pat) := [(3, .keep), (6, (.ros 38)), (7, .keep), (8, .keep)]
noncomputable def L13_0 (n id : Nat) (st : St G) : Option Int := match Nat.beq id 3 with | true => cutK Try.prog s13_0_3 [] c13_0_3.dec (K13_0 n) st | false => none
set_option maxRecDepth 100000 in
theorem e13_0 (n : Nat) (v : List (Int × Int × Bool)) : ev Try.prog E (oracle k13_0) Try.f13.ntmps (fun x => mem x [3]) (L13_0 n) (finF Try.prog E Try.f13.results.toList [[]] w13_0.alts) 4000 [.code (Try.f13.body.getD .skip)] (argSt (v13_0.enc v)) = E13_0 (K13_0 n) v := by kernel_rfl
set_option maxRecDepth 100000 in
theorem b13_0_3 (n : Nat) (v : Int × (List (Int × Int × Bool)) × Int × Int) : evCut Try.prog E (oracle k13_0) false 13 Try.f13.ntmps (fun x => mem x [3]) (L13_0 n) (finF Try.prog E Try.f13.results.toList [[]] w13_0.alts) 4000 (todoAt (Try.f13.body.getD .skip) 3) (cutSt s13_0_3 (c13_0_3.enc v)) = B13_0_3 (K13_0 n) v := by kernel_rfl
theorem ok13_0 : FnOk Try.prog E 13 v13_0.enc F13_0 w13_0.enc :=
  fn_known (fn := Try.f13) (c := (Try.f13.body.getD .skip)) Try.func13 (by kernel_rfl) rfl envOk (oracle_ok k13_0) mixed v13_0 F13_0 w13_0 [] [[]] (by kernel_rfl) [3] 4000 L13_0 (by kernel_rfl)
    (List.forall_mem_cons.2 ⟨⟨_, [], s13_0_3, c13_0_3.dec, c13_0_3.enc, fun n => (K13_0 n), c13_0_3.ok, fun _ _ => rfl, fun _ => rfl, by kernel_rfl, fun n v _ h => (b13_0_3 n v).trans h⟩, fun _ h => (nomatch h)⟩) (fun v _ h => ⟨fuel13_0 v, (e13_0 _ v).trans h⟩) (fun _ => by kernel_rfl) (fun _ => by kernel_rfl) (fun _ _ => by kernel_rfl)
/- (chicane/steward.Rules).finish -/
abbrev A41_0 : Type := (Int × Int × Int × Int) × List (Int × Int × Int × Int)
abbrev R41_0 : Type := Int × Bool
def v41_0 : Pk G ((Int × Int × Int × Int) × List (Int × Int × Int × Int)) := (Pk.fst (pk (Sh.cons (Sh.agg (Sh.cons (Sh.int .i64) (Sh.cons (Sh.int .i64) (Sh.cons (Sh.int .i64) (Sh.fst (Sh.cons (Sh.int .i64) Sh.nil)))))) (Sh.fst (Sh.cons (Sh.ros 43) Sh.nil))) Sh.hnil))
def w41_0 : Wk G (Int × Bool) := (Wk.one [.keep, .keep] (Pk.fst (pk (Sh.cons (Sh.int .i64) (Sh.fst (Sh.cons Sh.bool Sh.nil))) Sh.hnil)))
def F41_0 (v : (Int × Int × Int × Int) × List (Int × Int × Int × Int)) : Option (Int × Bool) :=
  (F10_0 v).bind fun r221 =>
  (F46_0 v.2).bind fun r222 =>
  bif r221.1.1 then
    some ((0 : Int), false)
  else
    bif (r221.1.2 != (0 : Int)) then
      some ((0 : Int), false)
    else
      bif (decide (r222 < (0 : Int))) then
        some ((0 : Int), false)
      else
        (rdx v.2 r222).bind fun (x223 : Int × Int × Int × Int) =>
        (F13_0 r221.2).bind fun r224 =>
        let x225 : Int := (IntKind.wrap .i64 (x223.2.2.2 + r224))
        some (x225, true)

noncomputable def k41_0 : List (Known Try.prog E) := [Known.of envOk [9, 7] [(.agg [.keep, .keep, .keep, .keep]), (.ros 43)] v10_0 F10_0 w10_0 ok10_0, Known.of envOk [7, 147] [(.ros 43), (.fn (.func 47) [] [])] v46_0 F46_0 w46_0 ok46_0, Known.of envOk [7] [(.ros 38)] v13_0 F13_0 w13_0 ok13_0]
noncomputable def L41_0 (n id : Nat) (st : St G) : Option (Int × Bool) := none
set_option maxRecDepth 100000 in
theorem e41_0 (n : Nat) (v : (Int × Int × Int × Int) × List (Int × Int × Int × Int)) : ev Try.prog E (oracle k41_0) Try.f41.ntmps (fun x => mem x []) (L41_0 n) (finF Try.prog E Try.f41.results.toList [[]] w41_0.alts) 4000 [.code (Try.f41.body.getD .skip)] (argSt (v41_0.enc v)) = F41_0 v := by kernel_rfl
theorem ok41_0 : FnOk Try.prog E 41 v41_0.enc F41_0 w41_0.enc :=
  fn_known (fn := Try.f41) (c := (Try.f41.body.getD .skip)) Try.func41 (by kernel_rfl) rfl envOk (oracle_ok k41_0) mixed v41_0 F41_0 w41_0 [] [[]] (by kernel_rfl) [] 4000 L41_0 (by kernel_rfl)
    (fun _ h => nomatch h) (fun v _ h => ⟨0, (e41_0 _ v).trans h⟩) (fun _ => by kernel_rfl) (fun _ => by kernel_rfl) (fun _ _ => by kernel_rfl)
/- chicane/steward.Classify$1 -/
abbrev A43_0 : Type := (Int × Int) × Int × Int
abbrev R43_0 : Type := Int
def v43_0 : Pk G ((Int × Int) × Int × Int) := (Pk.fst (pk (Sh.cons (Sh.agg (Sh.cons (Sh.int .i64) (Sh.fst (Sh.cons (Sh.int .i64) Sh.nil)))) (Sh.fst (Sh.cons (Sh.agg (Sh.cons (Sh.int .i64) (Sh.fst (Sh.cons (Sh.int .i64) Sh.nil)))) Sh.nil))) Sh.hnil))
def w43_0 : Wk G Int := (Wk.one [.keep] (Pk.fst (pk (Sh.fst (Sh.cons (Sh.int .i64) Sh.nil)) Sh.hnil)))
def F43_0 (v : (Int × Int) × Int × Int) : Option Int :=
  bif (decide (v.1.2 < v.2.2)) then
    some (-1 : Int)
  else
    bif (decide (v.1.2 > v.2.2)) then
      some (1 : Int)
    else
      some (0 : Int)

noncomputable def k43_0 : List (Known Try.prog E) := []
noncomputable def L43_0 (n id : Nat) (st : St G) : Option Int := none
set_option maxRecDepth 100000 in
theorem e43_0 (n : Nat) (v : (Int × Int) × Int × Int) : ev Try.prog E (oracle k43_0) Try.f43.ntmps (fun x => mem x []) (L43_0 n) (finF Try.prog E Try.f43.results.toList [[]] w43_0.alts) 4000 [.code (Try.f43.body.getD .skip)] (argSt (v43_0.enc v)) = F43_0 v := by kernel_rfl
theorem ok43_0 : FnOk Try.prog E 43 v43_0.enc F43_0 w43_0.enc :=
  fn_known (fn := Try.f43) (c := (Try.f43.body.getD .skip)) Try.func43 (by kernel_rfl) rfl envOk (oracle_ok k43_0) mixed v43_0 F43_0 w43_0 [] [[]] (by kernel_rfl) [] 4000 L43_0 (by kernel_rfl)
    (fun _ h => nomatch h) (fun v _ h => ⟨0, (e43_0 _ v).trans h⟩) (fun _ => by kernel_rfl) (fun _ => by kernel_rfl) (fun _ _ => by kernel_rfl)
/- slices.insertionSortCmpFunc[chicane/steward.place] -/
abbrev A49_0 : Type := (Int × Int) × List (Int × Int)
abbrev R49_0 : Type := List (Int × Int)
def v49_0 : Pk G ((Int × Int) × List (Int × Int)) := (pk (Sh.snd (Sh.cons (Sh.osl 0) (Sh.cons (Sh.int .i64) (Sh.fst (Sh.cons (Sh.int .i64) (Sh.snd (Sh.cons (Sh.snd (Sh.fn (.func 43) Sh.nil Sh.nil)) Sh.nil))))))) (Sh.fst (Sh.hrow 0 87 Sh.hnil)))
def w49_0 : Wk G (List (Int × Int)) := (Wk.one [] (Pk.snd (pk Sh.nil (Sh.fst (Sh.hrow 0 87 Sh.hnil)))))
def c49_0_1 : Pk G ((Int × Int × Int) × List (Int × Int)) := (pk (Sh.snd (Sh.cons (Sh.osl 0) (Sh.cons (Sh.int .i64) (Sh.cons (Sh.int .i64) (Sh.snd (Sh.cons (Sh.snd (Sh.fn (.func 43) Sh.nil Sh.nil)) (Sh.fst (Sh.cons (Sh.int .i64) Sh.nil)))))))) (Sh.fst (Sh.hrow 0 87 Sh.hnil)))
def c49_0_4 : Pk G ((Int × Int × Int × Int) × List (Int × Int)) := (pk (Sh.snd (Sh.cons (Sh.osl 0) (Sh.cons (Sh.int .i64) (Sh.cons (Sh.int .i64) (Sh.snd (Sh.cons (Sh.snd (Sh.fn (.func 43) Sh.nil Sh.nil)) (Sh.cons (Sh.int .i64) (Sh.fst (Sh.cons (Sh.int .i64) Sh.nil))))))))) (Sh.fst (Sh.hrow 0 87 Sh.hnil)))
def B49_0_1 (K : (((Int × Int × Int) × List (Int × Int)) → Option (List (Int × Int))) × (((Int × Int × Int × Int) × List (Int × Int)) → Option (List (Int × Int)))) (v : (Int × Int × Int) × List (Int × Int)) : Option (List (Int × Int)) :=
  bif (decide (v.1.2.2 < v.1.2.1)) then
    K.2 ((v.1.1, (v.1.2.1, (v.1.2.2, v.1.2.2))), v.2)
  else
    some (v.2)

def B49_0_4 (K : (((Int × Int × Int) × List (Int × Int)) → Option (List (Int × Int))) × (((Int × Int × Int × Int) × List (Int × Int)) → Option (List (Int × Int)))) (v : (Int × Int × Int × Int) × List (Int × Int)) : Option (List (Int × Int)) :=
  bif (decide (v.1.2.2.2 > v.1.1)) then
    (idx v.1.2.2.2 (v.2).length).bind fun (x319 : Nat) =>
    ((v.2)[x319]?).bind fun (x320 : Int × Int) =>
    let x321 : Int := (IntKind.wrap .i64 (v.1.2.2.2 - (1 : Int)))
    (idx x321 (v.2).length).bind fun (x322 : Nat) =>
    ((v.2)[x322]?).bind fun (x323 : Int × Int) =>
    (F43_0 (x320, x323)).bind fun r324 =>
    bif (decide (r324 < (0 : Int))) then
      let x325 : Int := (IntKind.wrap .i64 (v.1.2.2.2 - (1 : Int)))
      let x326 : Int := (IntKind.wrap .i64 (v.1.2.2.2 - (1 : Int)))
      (idx x326 (v.2).length).bind fun (x327 : Nat) =>
      ((v.2)[x327]?).bind fun (x328 : Int × Int) =>
      (idx v.1.2.2.2 (v.2).length).bind fun (x329 : Nat) =>
      ((v.2)[x329]?).bind fun (x330 : Int × Int) =>
      (idx v.1.2.2.2 (v.2).length).bind fun (x331 : Nat) =>
      ((v.2)[x331]?).bind fun _ =>
      let x333 : List (Int × Int) := (v.2).set x331 (x328)
      (idx x325 (x333).length).bind fun (x334 : Nat) =>
      ((x333)[x334]?).bind fun _ =>
      let x336 : List (Int × Int) := (x333).set x334 (x330)
      let x337 : Int := (IntKind.wrap .i64 (v.1.2.2.2 - (1 : Int)))
      K.2 ((v.1.1, (v.1.2.1, (v.1.2.2.1, x337))), x336)
    else
      let x338 : Int := (IntKind.wrap .i64 (v.1.2.2.1 + (1 : Int)))
      K.1 ((v.1.1, (v.1.2.1, x338)), v.2)
  else
    let x339 : Int := (IntKind.wrap .i64 (v.1.2.2.1 + (1 : Int)))
    K.1 ((v.1.1, (v.1.2.1, x339)), v.2)

def E49_0 (K : (((Int × Int × Int) × List (Int × Int)) → Option (List (Int × Int))) × (((Int × Int × Int × Int) × List (Int × Int)) → Option (List (Int × Int)))) (v : (Int × Int) × List (Int × Int)) : Option (List (Int × Int)) :=
  let x318 : Int := (IntKind.wrap .i64 (v.1.1 + (1 : Int)))
  K.1 ((v.1.1, (v.1.2, x318)), v.2)

def K49_0 : Nat → (((Int × Int × Int) × List (Int × Int)) → Option (List (Int × Int))) × (((Int × Int × Int × Int) × List (Int × Int)) → Option (List (Int × Int)))
  | 0 => (fun _ => none, fun _ => none)
  | n + 1 => (B49_0_1 (K49_0 n), B49_0_4 (K49_0 n))
def fuel49_0 (v : (Int × Int) × List (Int × Int)) : Nat := 1000
def F49_0 (v : (Int × Int) × List (Int × Int)) : Option (List (Int × Int)) := E49_0 (K49_0 (fuel49_0 v)) v
noncomputable def k49_0 : List (Known Try.prog E) := [Known.of envOk [9, 9] [(.agg [.keep, .keep]), (.agg [.keep, .keep])] v43_0 F43_0 w43_0 ok43_0]
def s49_0_4 : List (Nat × Pat) := [(0, (.own 0 87)), (1, .keep), (2, .keep), (3, (.fn (.func 43) [] [])), (8, .keep), (9, .keep)]
def s49_0_1 : List (Nat × Pat) := [(0, (.own 0 87)), (1, .keep), (2, .keep), (3, (.fn (.func 43) [] [])), (8, .keep)]
noncomputable def L49_0 (n id : Nat) (st : St G) : Option (List (Int × Int)) := match Nat.beq id 1 with | true => cutK Try.prog s49_0_1 [(.own 0 87)] c49_0_1.dec (K49_0 n).1 st | false => match Nat.beq id 4 with | true => cutK Try.prog s49_0_4 [(.own 0 87)] c49_0_4.dec (K49_0 n).2 st | false => none
set_option maxRecDepth 100000 in
theorem e49_0 (n : Nat) (v : (Int × Int) × List (Int × Int)) : ev Try.prog E (oracle k49_0) Try.f49.ntmps (fun x => mem x [1, 4]) (L49_0 n) (finF Try.prog E Try.f49.results.toList [[(.own 0 87)]] w49_0.alts) 4000 [.code (Try.f49.body.getD .skip)] (argSt (v49_0.enc v)) = E49_0 (K49_0 n) v := by kernel_rfl
set_option maxRecDepth 100000 in
theorem b49_0_1 (n : Nat) (v : (Int × Int × Int) × List (Int × Int)) : evCut Try.prog E (oracle k49_0) false 49 Try.f49.ntmps (fun x => mem x [1, 4]) (L49_0 n) (finF Try.prog E Try.f49.results.toList [[(.own 0 87)]] w49_0.alts) 4000 (todoAt (Try.f49.body.getD .skip) 1) (cutSt s49_0_1 (c49_0_1.enc v)) = B49_0_1 (K49_0 n) v := by kernel_rfl
set_option maxRecDepth 100000 in
theorem b49_0_4 (n : Nat) (v : (Int × Int × Int × Int) × List (Int × Int)) : evCut Try.prog E (oracle k49_0) false 49 Try.f49.ntmps (fun x => mem x [1, 4]) (L49_0 n) (finF Try.prog E Try.f49.results.toList [[(.own 0 87)]] w49_0.alts) 4000 (todoAt (Try.f49.body.getD .skip) 4) (cutSt s49_0_4 (c49_0_4.enc v)) = B49_0_4 (K49_0 n) v := by kernel_rfl
theorem ok49_0 : FnOk Try.prog E 49 v49_0.enc F49_0 w49_0.enc :=
  fn_known (fn := Try.f49) (c := (Try.f49.body.getD .skip)) Try.func49 (by kernel_rfl) rfl envOk (oracle_ok k49_0) mixed v49_0 F49_0 w49_0 [(.own 0 87)] [[(.own 0 87)]] (by kernel_rfl) [1, 4] 4000 L49_0 (by kernel_rfl)
    (List.forall_mem_cons.2 ⟨⟨_, [(.own 0 87)], s49_0_1, c49_0_1.dec, c49_0_1.enc, fun n => (K49_0 n).1, c49_0_1.ok, fun _ _ => rfl, fun _ => rfl, by kernel_rfl, fun n v _ h => (b49_0_1 n v).trans h⟩, List.forall_mem_cons.2 ⟨⟨_, [(.own 0 87)], s49_0_4, c49_0_4.dec, c49_0_4.enc, fun n => (K49_0 n).2, c49_0_4.ok, fun _ _ => rfl, fun _ => rfl, by kernel_rfl, fun n v _ h => (b49_0_4 n v).trans h⟩, fun _ h => (nomatch h)⟩⟩) (fun v _ h => ⟨fuel49_0 v, (e49_0 _ v).trans h⟩) (fun _ => by kernel_rfl) (fun _ => by kernel_rfl) (fun _ _ => by kernel_rfl)
/- slices.swapRangeCmpFunc[chicane/steward.place] -/
abbrev A52_0 : Type := (Int × Int × Int) × List (Int × Int)
abbrev R52_0 : Type := List (Int × Int)
def v52_0 : Pk G ((Int × Int × Int) × List (Int × Int)) := (pk (Sh.snd (Sh.cons (Sh.osl 0) (Sh.cons (Sh.int .i64) (Sh.cons (Sh.int .i64) (Sh.fst (Sh.cons (Sh.int .i64) (Sh.snd (Sh.cons (Sh.snd (Sh.fn (.func 43) Sh.nil Sh.nil)) Sh.nil)))))))) (Sh.fst (Sh.hrow 0 87 Sh.hnil)))
def w52_0 : Wk G (List (Int × Int)) := (Wk.one [] (Pk.snd (pk Sh.nil (Sh.fst (Sh.hrow 0 87 Sh.hnil)))))
def c52_0_1 : Pk G ((Int × Int × Int × Int) × List (Int × Int)) := (pk (Sh.snd (Sh.cons (Sh.osl 0) (Sh.cons (Sh.int .i64) (Sh.cons (Sh.int .i64) (Sh.cons (Sh.int .i64) (Sh.fst (Sh.cons (Sh.int .i64) Sh.nil))))))) (Sh.fst (Sh.hrow 0 87 Sh.hnil)))
def B52_0_1 (K : (((Int × Int × Int × Int) × List (Int × Int)) → Option (List (Int × Int)))) (v : (Int × Int × Int × Int) × List (Int × Int)) : Option (List (Int × Int)) :=
  bif (decide (v.1.2.2.2 < v.1.2.2.1)) then
    let x431 : Int := (IntKind.wrap .i64 (v.1.1 + v.1.2.2.2))
    let x432 : Int := (IntKind.wrap .i64 (v.1.2.1 + v.1.2.2.2))
    let x433 : Int := (IntKind.wrap .i64 (v.1.2.1 + v.1.2.2.2))
    (idx x433 (v.2).length).bind fun (x434 : Nat) =>
    ((v.2)[x434]?).bind fun (x435 : Int × Int) =>
    let x436 : Int := (IntKind.wrap .i64 (v.1.1 + v.1.2.2.2))
    (idx x436 (v.2).length).bind fun (x437 : Nat) =>
    ((v.2)[x437]?).bind fun (x438 : Int × Int) =>
    (idx x431 (v.2).length).bind fun (x439 : Nat) =>
    ((v.2)[x439]?).bind fun _ =>
    let x441 : List (Int × Int) := (v.2).set x439 (x435)
    (idx x432 (x441).length).bind fun (x442 : Nat) =>
    ((x441)[x442]?).bind fun _ =>
    let x444 : List (Int × Int) := (x441).set x442 (x438)
    let x445 : Int := (IntKind.wrap .i64 (v.1.2.2.2 + (1 : Int)))
    K ((v.1.1, (v.1.2.1, (v.1.2.2.1, x445))), x444)
  else
    some (v.2)

def E52_0 (K : (((Int × Int × Int × Int) × List (Int × Int)) → Option (List (Int × Int)))) (v : (Int × Int × Int) × List (Int × Int)) : Option (List (Int × Int)) :=
  K ((v.1.1, (v.1.2.1, (v.1.2.2, (0 : Int)))), v.2)

def K52_0 : Nat → (((Int × Int × Int × Int) × List (Int × Int)) → Option (List (Int × Int)))
  | 0 => (fun _ => none)
  | n + 1 => (B52_0_1 (K52_0 n))
def fuel52_0 (v : (Int × Int × Int) × List (Int × Int)) : Nat := 1000
def F52_0 (v : (Int × Int × Int) × List (Int × Int)) : Option (List (Int × Int)) := E52_0 (K52_0 (fuel52_0 v)) v
noncomputable def k52_0 : List (Known Try.prog E) := []
def s52_0_1 : List (Nat × Pat) := [(0, (.own 0 87)), (1, .keep), (2, .keep), (3, .keep), (10, .keep)]
noncomputable def L52_0 (n id : Nat) (st : St G) : Option (List (Int × Int)) := match Nat.beq id 1 with | true => cutK Try.prog s52_0_1 [(.own 0 87)] c52_0_1.dec (K52_0 n) st | false => none
set_option maxRecDepth 100000 in
theorem e52_0 (n : Nat) (v : (Int × Int × Int) × List (Int × Int)) : ev Try.prog E (oracle k52_0) Try.f52.ntmps (fun x => mem x [1]) (L52_0 n) (finF Try.prog E Try.f52.results.toList [[(.own 0 87)]] w52_0.alts) 4000 [.code (Try.f52.body.getD .skip)] (argSt (v52_0.enc v)) = E52_0 (K52_0 n) v := by kernel_rfl
set_option maxRecDepth 100000 in
theorem b52_0_1 (n : Nat) (v : (Int × Int × Int × Int) × List (Int × Int)) : evCut Try.prog E (oracle k52_0) false 52 Try.f52.ntmps (fun x => mem x [1]) (L52_0 n) (finF Try.prog E Try.f52.results.toList [[(.own 0 87)]] w52_0.alts) 4000 (todoAt (Try.f52.body.getD .skip) 1) (cutSt s52_0_1 (c52_0_1.enc v)) = B52_0_1 (K52_0 n) v := by kernel_rfl
theorem ok52_0 : FnOk Try.prog E 52 v52_0.enc F52_0 w52_0.enc :=
  fn_known (fn := Try.f52) (c := (Try.f52.body.getD .skip)) Try.func52 (by kernel_rfl) rfl envOk (oracle_ok k52_0) mixed v52_0 F52_0 w52_0 [(.own 0 87)] [[(.own 0 87)]] (by kernel_rfl) [1] 4000 L52_0 (by kernel_rfl)
    (List.forall_mem_cons.2 ⟨⟨_, [(.own 0 87)], s52_0_1, c52_0_1.dec, c52_0_1.enc, fun n => (K52_0 n), c52_0_1.ok, fun _ _ => rfl, fun _ => rfl, by kernel_rfl, fun n v _ h => (b52_0_1 n v).trans h⟩, fun _ h => (nomatch h)⟩) (fun v _ h => ⟨fuel52_0 v, (e52_0 _ v).trans h⟩) (fun _ => by kernel_rfl) (fun _ => by kernel_rfl) (fun _ _ => by kernel_rfl)
/- slices.rotateCmpFunc[chicane/steward.place] -/
abbrev A51_0 : Type := (Int × Int × Int) × List (Int × Int)
abbrev R51_0 : Type := List (Int × Int)
def v51_0 : Pk G ((Int × Int × Int) × List (Int × Int)) := (pk (Sh.snd (Sh.cons (Sh.osl 0) (Sh.cons (Sh.int .i64) (Sh.cons (Sh.int .i64) (Sh.fst (Sh.cons (Sh.int .i64) (Sh.snd (Sh.cons (Sh.snd (Sh.fn (.func 43) Sh.nil Sh.nil)) Sh.nil)))))))) (Sh.fst (Sh.hrow 0 87 Sh.hnil)))
def w51_0 : Wk G (List (Int × Int)) := (Wk.one [] (Pk.snd (pk Sh.nil (Sh.fst (Sh.hrow 0 87 Sh.hnil)))))
def c51_0_2 : Pk G ((Int × Int × Int) × List (Int × Int)) := (pk (Sh.snd (Sh.cons (Sh.osl 0) (Sh.cons (Sh.int .i64) (Sh.snd (Sh.cons (Sh.snd (Sh.fn (.func 43) Sh.nil Sh.nil)) (Sh.cons (Sh.int .i64) (Sh.fst (Sh.cons (Sh.int .i64) Sh.nil)))))))) (Sh.fst (Sh.hrow 0 87 Sh.hnil)))
def B51_0_2 (K : (((Int × Int × Int) × List (Int × Int)) → Option (List (Int × Int)))) (v : (Int × Int × Int) × List (Int × Int)) : Option (List (Int × Int)) :=
  bif (v.1.2.1 != v.1.2.2) then
    bif (decide (v.1.2.1 > v.1.2.2)) then
      let x474 : Int := (IntKind.wrap .i64 (v.1.1 - v.1.2.1))
      (F52_0 ((x474, (v.1.1, v.1.2.2)), v.2)).bind fun r475 =>
      let x476 : Int := (IntKind.wrap .i64 (v.1.2.1 - v.1.2.2))
      K ((v.1.1, (x476, v.1.2.2)), r475)
    else
      let x477 : Int := (IntKind.wrap .i64 (v.1.1 - v.1.2.1))
      let x478 : Int := (IntKind.wrap .i64 (v.1.1 + v.1.2.2))
      let x479 : Int := (IntKind.wrap .i64 (x478 - v.1.2.1))
      (F52_0 ((x477, (x479, v.1.2.1)), v.2)).bind fun r480 =>
      let x481 : Int := (IntKind.wrap .i64 (v.1.2.2 - v.1.2.1))
      K ((v.1.1, (v.1.2.1, x481)), r480)
  else
    let x482 : Int := (IntKind.wrap .i64 (v.1.1 - v.1.2.1))
    (F52_0 ((x482, (v.1.1, v.1.2.1)), v.2)).bind fun r483 =>
    some (r483)

def E51_0 (K : (((Int × Int × Int) × List (Int × Int)) → Option (List (Int × Int)))) (v : (Int × Int × Int) × List (Int × Int)) : Option (List (Int × Int)) :=
  let x472 : Int := (IntKind.wrap .i64 (v.1.2.1 - v.1.1))
  let x473 : Int := (IntKind.wrap .i64 (v.1.2.2 - v.1.2.1))
  K ((v.1.2.1, (x472, x473)), v.2)

def K51_0 : Nat → (((Int × Int × Int) × List (Int × Int)) → Option (List (Int × Int)))
  | 0 => (fun _ => none)
  | n + 1 => (B51_0_2 (K51_0 n))
def fuel51_0 (v : (Int × Int × Int) × List (Int × Int)) : Nat := 1000
def F51_0 (v : (Int × Int × Int) × List (Int × Int)) : Option (List (Int × Int)) := E51_0 (K51_0 (fuel51_0 v)) v
noncomputable def k51_0 : List (Known Try.prog E) := [Known.of envOk [7, 1, 1, 1, 143] [(.own 0 87), .keep, .keep, .keep, (.fn (.func 43) [] [])] v52_0 F52_0 w52_0 ok52_0]
def s51_0_2 : List (Nat × Pat) := [(0, (.own 0 87)), (2, .keep), (4, (.fn (.func 43) [] [])), (10, .keep), (11, .keep)]
noncomputable def L51_0 (n id : Nat) (st : St G) : Option (List (Int × Int)) := match Nat.beq id 2 with | true => cutK Try.prog s51_0_2 [(.own 0 87)] c51_0_2.dec (K51_0 n) st | false => none
set_option maxRecDepth 100000 in
theorem e51_0 (n : Nat) (v : (Int × Int × Int) × List (Int × Int)) : ev Try.prog E (oracle k51_0) Try.f51.ntmps (fun x => mem x [2]) (L51_0 n) (finF Try.prog E Try.f51.results.toList [[(.own 0 87)]] w51_0.alts) 4000 [.code (Try.f51.body.getD .skip)] (argSt (v51_0.enc v)) = E51_0 (K51_0 n) v := by kernel_rfl
set_option maxRecDepth 100000 in
theorem b51_0_2 (n : Nat) (v : (Int × Int × Int) × List (Int × Int)) : evCut Try.prog E (oracle k51_0) false 51 Try.f51.ntmps (fun x => mem x [2]) (L51_0 n) (finF Try.prog E Try.f51.results.toList [[(.own 0 87)]] w51_0.alts) 4000 (todoAt (Try.f51.body.getD .skip) 2) (cutSt s51_0_2 (c51_0_2.enc v)) = B51_0_2 (K51_0 n) v := by kernel_rfl
theorem ok51_0 : FnOk Try.prog E 51 v51_0.enc F51_0 w51_0.enc :=
  fn_known (fn := Try.f51) (c := (Try.f51.body.getD .skip)) Try.func51 (by kernel_rfl) rfl envOk (oracle_ok k51_0) mixed v51_0 F51_0 w51_0 [(.own 0 87)] [[(.own 0 87)]] (by kernel_rfl) [2] 4000 L51_0 (by kernel_rfl)
    (List.forall_mem_cons.2 ⟨⟨_, [(.own 0 87)], s51_0_2, c51_0_2.dec, c51_0_2.enc, fun n => (K51_0 n), c51_0_2.ok, fun _ _ => rfl, fun _ => rfl, by kernel_rfl, fun n v _ h => (b51_0_2 n v).trans h⟩, fun _ h => (nomatch h)⟩) (fun v _ h => ⟨fuel51_0 v, (e51_0 _ v).trans h⟩) (fun _ => by kernel_rfl) (fun _ => by kernel_rfl) (fun _ _ => by kernel_rfl)
/- slices.symMergeCmpFunc[chicane/steward.place] -/
abbrev A50_0 : Type := (Int × Int × Int) × List (Int × Int)
abbrev R50_0 : Type := List (Int × Int)
def v50_0 : Pk G ((Int × Int × Int) × List (Int × Int)) := (pk (Sh.snd (Sh.cons (Sh.osl 0) (Sh.cons (Sh.int .i64) (Sh.cons (Sh.int .i64) (Sh.fst (Sh.cons (Sh.int .i64) (Sh.snd (Sh.cons (Sh.snd (Sh.fn (.func 43) Sh.nil Sh.nil)) Sh.nil)))))))) (Sh.fst (Sh.hrow 0 87 Sh.hnil)))
def w50_0 : Wk G (List (Int × Int)) := (Wk.one [] (Pk.snd (pk Sh.nil (Sh.fst (Sh.hrow 0 87 Sh.hnil)))))
def c50_0_3 : Pk G ((Int × Int × Int) × List (Int × Int)) := (pk (Sh.snd (Sh.cons (Sh.osl 0) (Sh.cons (Sh.int .i64) (Sh.snd (Sh.cons (Sh.snd (Sh.fn (.func 43) Sh.nil Sh.nil)) (Sh.cons (Sh.int .i64) (Sh.fst (Sh.cons (Sh.int .i64) Sh.nil)))))))) (Sh.fst (Sh.hrow 0 87 Sh.hnil)))
def c50_0_9 : Pk G ((Int × Int) × List (Int × Int)) := (pk (Sh.snd (Sh.cons (Sh.osl 0) (Sh.cons (Sh.int .i64) (Sh.fst (Sh.cons (Sh.int .i64) Sh.nil))))) (Sh.fst (Sh.hrow 0 87 Sh.hnil)))
def c50_0_15 : Pk G ((Int × Int × Int) × List (Int × Int)) := (pk (Sh.snd (Sh.cons (Sh.osl 0) (Sh.cons (Sh.int .i64) (Sh.snd (Sh.cons (Sh.snd (Sh.fn (.func 43) Sh.nil Sh.nil)) (Sh.cons (Sh.int .i64) (Sh.fst (Sh.cons (Sh.int .i64) Sh.nil)))))))) (Sh.fst (Sh.hrow 0 87 Sh.hnil)))
def c50_0_21 : Pk G ((Int × Int) × List (Int × Int)) := (pk (Sh.snd (Sh.cons (Sh.osl 0) (Sh.cons (Sh.int .i64) (Sh.fst (Sh.cons (Sh.int .i64) Sh.nil))))) (Sh.fst (Sh.hrow 0 87 Sh.hnil)))
def c50_0_33 : Pk G ((Int × Int × Int × Int × Int × Int × Int × Int) × List (Int × Int)) := (pk (Sh.snd (Sh.cons (Sh.osl 0) (Sh.cons (Sh.int .i64) (Sh.cons (Sh.int .i64) (Sh.cons (Sh.int .i64) (Sh.snd (Sh.cons (Sh.snd (Sh.fn (.func 43) Sh.nil Sh.nil)) (Sh.cons (Sh.int .i64) (Sh.cons (Sh.int .i64) (Sh.cons (Sh.int .i64) (Sh.cons (Sh.int .i64) (Sh.fst (Sh.cons (Sh.int .i64) Sh.nil))))))))))))) (Sh.fst (Sh.hrow 0 87 Sh.hnil)))
def B50_0_3 (Rc : ((Int × Int × Int) × List (Int × Int)) → Option (List (Int × Int))) (K : (((Int × Int × Int) × List (Int × Int)) → Option (List (Int × Int))) × (((Int × Int) × List (Int × Int)) → Option (List (Int × Int))) × (((Int × Int × Int) × List (Int × Int)) → Option (List (Int × Int))) × (((Int × Int) × List (Int × Int)) → Option (List (Int × Int))) × (((Int × Int × Int × Int × Int × Int × Int × Int) × List (Int × Int)) → Option (List (Int × Int)))) (v : (Int × Int × Int) × List (Int × Int)) : Option (List (Int × Int)) :=
  bif (decide (v.1.2.1 < v.1.2.2)) then
    let x665 : Int := (IntKind.wrap .i64 (v.1.2.1 + v.1.2.2))
    let x666 : Int := (IntKind.wrap .u64 x665)
    let x667 : Int := (Int.fdiv x666 (2 ^ 1))
    let x668 : Int := (IntKind.wrap .i64 x667)
    (idx x668 (v.2).length).bind fun (x669 : Nat) =>
    ((v.2)[x669]?).bind fun (x670 : Int × Int) =>
    (idx v.1.1 (v.2).length).bind fun (x671 : Nat) =>
    ((v.2)[x671]?).bind fun (x672 : Int × Int) =>
    (F43_0 (x670, x672)).bind fun r673 =>
    bif (decide (r673 < (0 : Int))) then
      let x674 : Int := (IntKind.wrap .i64 (x668 + (1 : Int)))
      K.1 ((v.1.1, (x674, v.1.2.2)), v.2)
    else
      K.1 ((v.1.1, (v.1.2.1, x668)), v.2)
  else
    K.2.1 ((v.1.2.1, v.1.1), v.2)

def B50_0_9 (Rc : ((Int × Int × Int) × List (Int × Int)) → Option (List (Int × Int))) (K : (((Int × Int × Int) × List (Int × Int)) → Option (List (Int × Int))) × (((Int × Int) × List (Int × Int)) → Option (List (Int × Int))) × (((Int × Int × Int) × List (Int × Int)) → Option (List (Int × Int))) × (((Int × Int) × List (Int × Int)) → Option (List (Int × Int))) × (((Int × Int × Int × Int × Int × Int × Int × Int) × List (Int × Int)) → Option (List (Int × Int)))) (v : (Int × Int) × List (Int × Int)) : Option (List (Int × Int)) :=
  let x675 : Int := (IntKind.wrap .i64 (v.1.1 - (1 : Int)))
  bif (decide (v.1.2 < x675)) then
    let x676 : Int := (IntKind.wrap .i64 (v.1.2 + (1 : Int)))
    let x677 : Int := (IntKind.wrap .i64 (v.1.2 + (1 : Int)))
    (idx x677 (v.2).length).bind fun (x678 : Nat) =>
    ((v.2)[x678]?).bind fun (x679 : Int × Int) =>
    (idx v.1.2 (v.2).length).bind fun (x680 : Nat) =>
    ((v.2)[x680]?).bind fun (x681 : Int × Int) =>
    (idx v.1.2 (v.2).length).bind fun (x682 : Nat) =>
    ((v.2)[x682]?).bind fun _ =>
    let x684 : List (Int × Int) := (v.2).set x682 (x679)
    (idx x676 (x684).length).bind fun (x685 : Nat) =>
    ((x684)[x685]?).bind fun _ =>
    let x687 : List (Int × Int) := (x684).set x685 (x681)
    let x688 : Int := (IntKind.wrap .i64 (v.1.2 + (1 : Int)))
    K.2.1 ((v.1.1, x688), x687)
  else
    some (v.2)

def B50_0_15 (Rc : ((Int × Int × Int) × List (Int × Int)) → Option (List (Int × Int))) (K : (((Int × Int × Int) × List (Int × Int)) → Option (List (Int × Int))) × (((Int × Int) × List (Int × Int)) → Option (List (Int × Int))) × (((Int × Int × Int) × List (Int × Int)) → Option (List (Int × Int))) × (((Int × Int) × List (Int × Int)) → Option (List (Int × Int))) × (((Int × Int × Int × Int × Int × Int × Int × Int) × List (Int × Int)) → Option (List (Int × Int)))) (v : (Int × Int × Int) × List (Int × Int)) : Option (List (Int × Int)) :=
  bif (decide (v.1.2.1 < v.1.2.2)) then
    let x689 : Int := (IntKind.wrap .i64 (v.1.2.1 + v.1.2.2))
    let x690 : Int := (IntKind.wrap .u64 x689)
    let x691 : Int := (Int.fdiv x690 (2 ^ 1))
    let x692 : Int := (IntKind.wrap .i64 x691)
    (idx v.1.1 (v.2).length).bind fun (x693 : Nat) =>
    ((v.2)[x693]?).bind fun (x694 : Int × Int) =>
    (idx x692 (v.2).length).bind fun (x695 : Nat) =>
    ((v.2)[x695]?).bind fun (x696 : Int × Int) =>
    (F43_0 (x694, x696)).bind fun r697 =>
    bif (!(decide (r697 < (0 : Int)))) then
      let x698 : Int := (IntKind.wrap .i64 (x692 + (1 : Int)))
      K.2.2.1 ((v.1.1, (x698, v.1.2.2)), v.2)
    else
      K.2.2.1 ((v.1.1, (v.1.2.1, x692)), v.2)
  else
    K.2.2.2.1 ((v.1.2.1, v.1.1), v.2)

def B50_0_21 (Rc : ((Int × Int × Int) × List (Int × Int)) → Option (List (Int × Int))) (K : (((Int × Int × Int) × List (Int × Int)) → Option (List (Int × Int))) × (((Int × Int) × List (Int × Int)) → Option (List (Int × Int))) × (((Int × Int × Int) × List (Int × Int)) → Option (List (Int × Int))) × (((Int × Int) × List (Int × Int)) → Option (List (Int × Int))) × (((Int × Int × Int × Int × Int × Int × Int × Int) × List (Int × Int)) → Option (List (Int × Int)))) (v : (Int × Int) × List (Int × Int)) : Option (List (Int × Int)) :=
  bif (decide (v.1.2 > v.1.1)) then
    let x699 : Int := (IntKind.wrap .i64 (v.1.2 - (1 : Int)))
    let x700 : Int := (IntKind.wrap .i64 (v.1.2 - (1 : Int)))
    (idx x700 (v.2).length).bind fun (x701 : Nat) =>
    ((v.2)[x701]?).bind fun (x702 : Int × Int) =>
    (idx v.1.2 (v.2).length).bind fun (x703 : Nat) =>
    ((v.2)[x703]?).bind fun (x704 : Int × Int) =>
    (idx v.1.2 (v.2).length).bind fun (x705 : Nat) =>
    ((v.2)[x705]?).bind fun _ =>
    let x707 : List (Int × Int) := (v.2).set x705 (x702)
    (idx x699 (x707).length).bind fun (x708 : Nat) =>
    ((x707)[x708]?).bind fun _ =>
    let x710 : List (Int × Int) := (x707).set x708 (x704)
    let x711 : Int := (IntKind.wrap .i64 (v.1.2 - (1 : Int)))
    K.2.2.2.1 ((v.1.1, x711), x710)
  else
    some (v.2)

def B50_0_33 (Rc : ((Int × Int × Int) × List (Int × Int)) → Option (List (Int × Int))) (K : (((Int × Int × Int) × List (Int × Int)) → Option (List (Int × Int))) × (((Int × Int) × List (Int × Int)) → Option (List (Int × Int))) × (((Int × Int × Int) × List (Int × Int)) → Option (List (Int × Int))) × (((Int × Int) × List (Int × Int)) → Option (List (Int × Int))) × (((Int × Int × Int × Int × Int × Int × Int × Int) × List (Int × Int)) → Option (List (Int × Int)))) (v : (Int × Int × Int × Int × Int × Int × Int × Int) × List (Int × Int)) : Option (List (Int × Int)) :=
  bif (decide (v.1.2.2.2.2.2.1 < v.1.2.2.2.2.2.2.1)) then
    let x712 : Int := (IntKind.wrap .i64 (v.1.2.2.2.2.2.1 + v.1.2.2.2.2.2.2.1))
    let x713 : Int := (IntKind.wrap .u64 x712)
    let x714 : Int := (Int.fdiv x713 (2 ^ 1))
    let x715 : Int := (IntKind.wrap .i64 x714)
    let x716 : Int := (IntKind.wrap .i64 (v.1.2.2.2.2.2.2.2 - x715))
    (idx x716 (v.2).length).bind fun (x717 : Nat) =>
    ((v.2)[x717]?).bind fun (x718 : Int × Int) =>
    (idx x715 (v.2).length).bind fun (x719 : Nat) =>
    ((v.2)[x719]?).bind fun (x720 : Int × Int) =>
    (F43_0 (x718, x720)).bind fun r721 =>
    bif (!(decide (r721 < (0 : Int)))) then
      let x722 : Int := (IntKind.wrap .i64 (x715 + (1 : Int)))
      K.2.2.2.2 ((v.1.1, (v.1.2.1, (v.1.2.2.1, (v.1.2.2.2.1, (v.1.2.2.2.2.1, (x722, v.1.2.2.2.2.2.2)))))), v.2)
    else
      K.2.2.2.2 ((v.1.1, (v.1.2.1, (v.1.2.2.1, (v.1.2.2.2.1, (v.1.2.2.2.2.1, (v.1.2.2.2.2.2.1, (x715, v.1.2.2.2.2.2.2.2))))))), v.2)
  else
    let x723 : Int := (IntKind.wrap .i64 (v.1.2.2.2.2.1 - v.1.2.2.2.2.2.1))
    bif (decide (v.1.2.2.2.2.2.1 < v.1.2.1)) then
      bif (decide (v.1.2.1 < x723)) then
        (F51_0 ((v.1.2.2.2.2.2.1, (v.1.2.1, x723)), v.2)).bind fun r724 =>
        bif (decide (v.1.1 < v.1.2.2.2.2.2.1)) then
          bif (decide (v.1.2.2.2.2.2.1 < v.1.2.2.2.1)) then
            (Rc ((v.1.1, (v.1.2.2.2.2.2.1, v.1.2.2.2.1)), r724)).bind fun r725 =>
            bif (decide (v.1.2.2.2.1 < x723)) then
              bif (decide (x723 < v.1.2.2.1)) then
                (Rc ((v.1.2.2.2.1, (x723, v.1.2.2.1)), r725)).bind fun r726 =>
                some (r726)
              else
                some (r725)
            else
              some (r725)
          else
            bif (decide (v.1.2.2.2.1 < x723)) then
              bif (decide (x723 < v.1.2.2.1)) then
                (Rc ((v.1.2.2.2.1, (x723, v.1.2.2.1)), r724)).bind fun r727 =>
                some (r727)
              else
                some (r724)
            else
              some (r724)
        else
          bif (decide (v.1.2.2.2.1 < x723)) then
            bif (decide (x723 < v.1.2.2.1)) then
              (Rc ((v.1.2.2.2.1, (x723, v.1.2.2.1)), r724)).bind fun r728 =>
              some (r728)
            else
              some (r724)
          else
            some (r724)
      else
        bif (decide (v.1.1 < v.1.2.2.2.2.2.1)) then
          bif (decide (v.1.2.2.2.2.2.1 < v.1.2.2.2.1)) then
            (Rc ((v.1.1, (v.1.2.2.2.2.2.1, v.1.2.2.2.1)), v.2)).bind fun r729 =>
            bif (decide (v.1.2.2.2.1 < x723)) then
              bif (decide (x723 < v.1.2.2.1)) then
                (Rc ((v.1.2.2.2.1, (x723, v.1.2.2.1)), r729)).bind fun r730 =>
                some (r730)
              else
                some (r729)
            else
              some (r729)
          else
            bif (decide (v.1.2.2.2.1 < x723)) then
              bif (decide (x723 < v.1.2.2.1)) then
                (Rc ((v.1.2.2.2.1, (x723, v.1.2.2.1)), v.2)).bind fun r731 =>
                some (r731)
              else
                some (v.2)
            else
              some (v.2)
        else
          bif (decide (v.1.2.2.2.1 < x723)) then
            bif (decide (x723 < v.1.2.2.1)) then
              (Rc ((v.1.2.2.2.1, (x723, v.1.2.2.1)), v.2)).bind fun r732 =>
              some (r732)
            else
              some (v.2)
          else
            some (v.2)
    else
      bif (decide (v.1.1 < v.1.2.2.2.2.2.1)) then
        bif (decide (v.1.2.2.2.2.2.1 < v.1.2.2.2.1)) then
          (Rc ((v.1.1, (v.1.2.2.2.2.2.1, v.1.2.2.2.1)), v.2)).bind fun r733 =>
          bif (decide (v.1.2.2.2.1 < x723)) then
            bif (decide (x723 < v.1.2.2.1)) then
              (Rc ((v.1.2.2.2.1, (x723, v.1.2.2.1)), r733)).bind fun r734 =>
              some (r734)
            else
              some (r733)
          else
            some (r733)
        else
          bif (decide (v.1.2.2.2.1 < x723)) then
            bif (decide (x723 < v.1.2.2.1)) then
              (Rc ((v.1.2.2.2.1, (x723, v.1.2.2.1)), v.2)).bind fun r735 =>
              some (r735)
            else
              some (v.2)
          else
            some (v.2)
      else
        bif (decide (v.1.2.2.2.1 < x723)) then
          bif (decide (x723 < v.1.2.2.1)) then
            (Rc ((v.1.2.2.2.1, (x723, v.1.2.2.1)), v.2)).bind fun r736 =>
            some (r736)
          else
            some (v.2)
        else
          some (v.2)

def E50_0 (Rc : ((Int × Int × Int) × List (Int × Int)) → Option (List (Int × Int))) (K : (((Int × Int × Int) × List (Int × Int)) → Option (List (Int × Int))) × (((Int × Int) × List (Int × Int)) → Option (List (Int × Int))) × (((Int × Int × Int) × List (Int × Int)) → Option (List (Int × Int))) × (((Int × Int) × List (Int × Int)) → Option (List (Int × Int))) × (((Int × Int × Int × Int × Int × Int × Int × Int) × List (Int × Int)) → Option (List (Int × Int)))) (v : (Int × Int × Int) × List (Int × Int)) : Option (List (Int × Int)) :=
  let x655 : Int := (IntKind.wrap .i64 (v.1.2.1 - v.1.1))
  bif (x655 == (1 : Int)) then
    K.1 (v)
  else
    let x656 : Int := (IntKind.wrap .i64 (v.1.2.2 - v.1.2.1))
    bif (x656 == (1 : Int)) then
      K.2.2.1 ((v.1.2.1, (v.1.1, v.1.2.1)), v.2)
    else
      let x657 : Int := (IntKind.wrap .i64 (v.1.1 + v.1.2.2))
      let x658 : Int := (IntKind.wrap .u64 x657)
      let x659 : Int := (Int.fdiv x658 (2 ^ 1))
      let x660 : Int := (IntKind.wrap .i64 x659)
      let x661 : Int := (IntKind.wrap .i64 (x660 + v.1.2.1))
      bif (decide (v.1.2.1 > x660)) then
        let x662 : Int := (IntKind.wrap .i64 (x661 - v.1.2.2))
        let x663 : Int := (IntKind.wrap .i64 (x661 - (1 : Int)))
        K.2.2.2.2 ((v.1.1, (v.1.2.1, (v.1.2.2, (x660, (x661, (x662, (x660, x663))))))), v.2)
      else
        let x664 : Int := (IntKind.wrap .i64 (x661 - (1 : Int)))
        K.2.2.2.2 ((v.1.1, (v.1.2.1, (v.1.2.2, (x660, (x661, (v.1.1, (v.1.2.1, x664))))))), v.2)

def K50_0 (Rc : ((Int × Int × Int) × List (Int × Int)) → Option (List (Int × Int))) : Nat → (((Int × Int × Int) × List (Int × Int)) → Option (List (Int × Int))) × (((Int × Int) × List (Int × Int)) → Option (List (Int × Int))) × (((Int × Int × Int) × List (Int × Int)) → Option (List (Int × Int))) × (((Int × Int) × List (Int × Int)) → Option (List (Int × Int))) × (((Int × Int × Int × Int × Int × Int × Int × Int) × List (Int × Int)) → Option (List (Int × Int)))
  | 0 => (fun _ => none, fun _ => none, fun _ => none, fun _ => none, fun _ => none)
  | n + 1 => (B50_0_3 Rc (K50_0 Rc n), B50_0_9 Rc (K50_0 Rc n), B50_0_15 Rc (K50_0 Rc n), B50_0_21 Rc (K50_0 Rc n), B50_0_33 Rc (K50_0 Rc n))
def fuel50_0 (v : (Int × Int × Int) × List (Int × Int)) : Nat := 1000
def D50_0 (Rc : ((Int × Int × Int) × List (Int × Int)) → Option (List (Int × Int))) (v : (Int × Int × Int) × List (Int × Int)) : Option (List (Int × Int)) := E50_0 Rc (K50_0 Rc (fuel50_0 v)) v
def Q50_0 : Nat → ((Int × Int × Int) × List (Int × Int)) → Option (List (Int × Int))
  | 0 => fun _ => none
  | n + 1 => D50_0 (Q50_0 n)
def depth50_0 (v : (Int × Int × Int) × List (Int × Int)) : Nat := 100
def F50_0 (v : (Int × Int × Int) × List (Int × Int)) : Option (List (Int × Int)) := Q50_0 (depth50_0 v) v
noncomputable def k50_0 (Rc : ((Int × Int × Int) × List (Int × Int)) → Option (List (Int × Int))) (hR : FnOk Try.prog E 50 v50_0.enc Rc w50_0.enc) : List (Known Try.prog E) := [Known.of envOk [9, 9] [(.agg [.keep, .keep]), (.agg [.keep, .keep])] v43_0 F43_0 w43_0 ok43_0, Known.of envOk [7, 1, 1, 1, 143] [(.own 0 87), .keep, .keep, .keep, (.fn (.func 43) [] [])] v51_0 F51_0 w51_0 ok51_0, Known.of envOk [7, 1, 1, 1, 143] [(.own 0 87), .keep, .keep, .keep, (.fn (.func 43) [] [])] v50_0 Rc w50_0 hR]
def s50_0_33 : List (Nat × Pat) := [(0, (.own 0 87)), (1, .keep), (2, .keep), (3, .keep), (4, (.fn (.func 43) [] [])), (18, .keep), (19, .keep), (20, .keep), (21, .keep), (22, .keep)]
def s50_0_21 : List (Nat × Pat) := [(0, (.own 0 87)), (14, .keep), (17, .keep)]
def s50_0_15 : List (Nat × Pat) := [(0, (.own 0 87)), (2, .keep), (4, (.fn (.func 43) [] [])), (14, .keep), (15, .keep)]
def s50_0_9 : List (Nat × Pat) := [(0, (.own 0 87)), (10, .keep), (13, .keep)]
def s50_0_3 : List (Nat × Pat) := [(0, (.own 0 87)), (1, .keep), (4, (.fn (.func 43) [] [])), (10, .keep), (11, .keep)]
noncomputable def L50_0 (Rc : ((Int × Int × Int) × List (Int × Int)) → Option (List (Int × Int))) (n id : Nat) (st : St G) : Option (List (Int × Int)) := match Nat.beq id 3 with | true => cutK Try.prog s50_0_3 [(.own 0 87)] c50_0_3.dec (K50_0 Rc n).1 st | false => match Nat.beq id 9 with | true => cutK Try.prog s50_0_9 [(.own 0 87)] c50_0_9.dec (K50_0 Rc n).2.1 st | false => match Nat.beq id 15 with | true => cutK Try.prog s50_0_15 [(.own 0 87)] c50_0_15.dec (K50_0 Rc n).2.2.1 st | false => match Nat.beq id 21 with | true => cutK Try.prog s50_0_21 [(.own 0 87)] c50_0_21.dec (K50_0 Rc n).2.2.2.1 st | false => match Nat.beq id 33 with | true => cutK Try.prog s50_0_33 [(.own 0 87)] c50_0_33.dec (K50_0 Rc n).2.2.2.2 st | false => none
set_option maxRecDepth 100000 in
theorem e50_0 (Rc : ((Int × Int × Int) × List (Int × Int)) → Option (List (Int × Int))) (hR : FnOk Try.prog E 50 v50_0.enc Rc w50_0.enc) (n : Nat) (v : (Int × Int × Int) × List (Int × Int)) : ev Try.prog E (oracle (k50_0 Rc hR)) Try.f50.ntmps (fun x => mem x [3, 9, 15, 21, 33]) (L50_0 Rc n) (finF Try.prog E Try.f50.results.toList [[(.own 0 87)]] w50_0.alts) 4000 [.code (Try.f50.body.getD .skip)] (argSt (v50_0.enc v)) = E50_0 Rc (K50_0 Rc n) v := by kernel_rfl
set_option maxRecDepth 100000 in
theorem b50_0_3 (Rc : ((Int × Int × Int) × List (Int × Int)) → Option (List (Int × Int))) (hR : FnOk Try.prog E 50 v50_0.enc Rc w50_0.enc) (n : Nat) (v : (Int × Int × Int) × List (Int × Int)) : evCut Try.prog E (oracle (k50_0 Rc hR)) false 50 Try.f50.ntmps (fun x => mem x [3, 9, 15, 21, 33]) (L50_0 Rc n) (finF Try.prog E Try.f50.results.toList [[(.own 0 87)]] w50_0.alts) 4000 (todoAt (Try.f50.body.getD .skip) 3) (cutSt s50_0_3 (c50_0_3.enc v)) = B50_0_3 Rc (K50_0 Rc n) v := by kernel_rfl
set_option maxRecDepth 100000 in
theorem b50_0_9 (Rc : ((Int × Int × Int) × List (Int × Int)) → Option (List (Int × Int))) (hR : FnOk Try.prog E 50 v50_0.enc Rc w50_0.enc) (n : Nat) (v : (Int × Int) × List (Int × Int)) : evCut Try.prog E (oracle (k50_0 Rc hR)) false 50 Try.f50.ntmps (fun x => mem x [3, 9, 15, 21, 33]) (L50_0 Rc n) (finF Try.prog E Try.f50.results.toList [[(.own 0 87)]] w50_0.alts) 4000 (todoAt (Try.f50.body.getD .skip) 9) (cutSt s50_0_9 (c50_0_9.enc v)) = B50_0_9 Rc (K50_0 Rc n) v := by kernel_rfl
set_option maxRecDepth 100000 in
theorem b50_0_15 (Rc : ((Int × Int × Int) × List (Int × Int)) → Option (List (Int × Int))) (hR : FnOk Try.prog E 50 v50_0.enc Rc w50_0.enc) (n : Nat) (v : (Int × Int × Int) × List (Int × Int)) : evCut Try.prog E (oracle (k50_0 Rc hR)) false 50 Try.f50.ntmps (fun x => mem x [3, 9, 15, 21, 33]) (L50_0 Rc n) (finF Try.prog E Try.f50.results.toList [[(.own 0 87)]] w50_0.alts) 4000 (todoAt (Try.f50.body.getD .skip) 15) (cutSt s50_0_15 (c50_0_15.enc v)) = B50_0_15 Rc (K50_0 Rc n) v := by kernel_rfl
set_option maxRecDepth 100000 in
theorem b50_0_21 (Rc : ((Int × Int × Int) × List (Int × Int)) → Option (List (Int × Int))) (hR : FnOk Try.prog E 50 v50_0.enc Rc w50_0.enc) (n : Nat) (v : (Int × Int) × List (Int × Int)) : evCut Try.prog E (oracle (k50_0 Rc hR)) false 50 Try.f50.ntmps (fun x => mem x [3, 9, 15, 21, 33]) (L50_0 Rc n) (finF Try.prog E Try.f50.results.toList [[(.own 0 87)]] w50_0.alts) 4000 (todoAt (Try.f50.body.getD .skip) 21) (cutSt s50_0_21 (c50_0_21.enc v)) = B50_0_21 Rc (K50_0 Rc n) v := by kernel_rfl
set_option maxRecDepth 100000 in
theorem b50_0_33 (Rc : ((Int × Int × Int) × List (Int × Int)) → Option (List (Int × Int))) (hR : FnOk Try.prog E 50 v50_0.enc Rc w50_0.enc) (n : Nat) (v : (Int × Int × Int × Int × Int × Int × Int × Int) × List (Int × Int)) : evCut Try.prog E (oracle (k50_0 Rc hR)) false 50 Try.f50.ntmps (fun x => mem x [3, 9, 15, 21, 33]) (L50_0 Rc n) (finF Try.prog E Try.f50.results.toList [[(.own 0 87)]] w50_0.alts) 4000 (todoAt (Try.f50.body.getD .skip) 33) (cutSt s50_0_33 (c50_0_33.enc v)) = B50_0_33 Rc (K50_0 Rc n) v := by kernel_rfl
theorem okD50_0 (Rc : ((Int × Int × Int) × List (Int × Int)) → Option (List (Int × Int))) (hR : FnOk Try.prog E 50 v50_0.enc Rc w50_0.enc) : FnOk Try.prog E 50 v50_0.enc (D50_0 Rc) w50_0.enc :=
  fn_known (fn := Try.f50) (c := (Try.f50.body.getD .skip)) Try.func50 (by kernel_rfl) rfl envOk (oracle_ok (k50_0 Rc hR)) mixed v50_0 (D50_0 Rc) w50_0 [(.own 0 87)] [[(.own 0 87)]] (by kernel_rfl) [3, 9, 15, 21, 33] 4000 (L50_0 Rc) (by kernel_rfl)
    (List.forall_mem_cons.2 ⟨⟨_, [(.own 0 87)], s50_0_3, c50_0_3.dec, c50_0_3.enc, fun n => (K50_0 Rc n).1, c50_0_3.ok, fun _ _ => rfl, fun _ => rfl, by kernel_rfl, fun n v _ h => (b50_0_3 Rc hR n v).trans h⟩, List.forall_mem_cons.2 ⟨⟨_, [(.own 0 87)], s50_0_9, c50_0_9.dec, c50_0_9.enc, fun n => (K50_0 Rc n).2.1, c50_0_9.ok, fun _ _ => rfl, fun _ => rfl, by kernel_rfl, fun n v _ h => (b50_0_9 Rc hR n v).trans h⟩, List.forall_mem_cons.2 ⟨⟨_, [(.own 0 87)], s50_0_15, c50_0_15.dec, c50_0_15.enc, fun n => (K50_0 Rc n).2.2.1, c50_0_15.ok, fun _ _ => rfl, fun _ => rfl, by kernel_rfl, fun n v _ h => (b50_0_15 Rc hR n v).trans h⟩, List.forall_mem_cons.2 ⟨⟨_, [(.own 0 87)], s50_0_21, c50_0_21.dec, c50_0_21.enc, fun n => (K50_0 Rc n).2.2.2.1, c50_0_21.ok, fun _ _ => rfl, fun _ => rfl, by kernel_rfl, fun n v _ h => (b50_0_21 Rc hR n v).trans h⟩, List.forall_mem_cons.2 ⟨⟨_, [(.own 0 87)], s50_0_33, c50_0_33.dec, c50_0_33.enc, fun n => (K50_0 Rc n).2.2.2.2, c50_0_33.ok, fun _ _ => rfl, fun _ => rfl, by kernel_rfl, fun n v _ h => (b50_0_33 Rc hR n v).trans h⟩, fun _ h => (nomatch h)⟩⟩⟩⟩⟩) (fun v _ h => ⟨fuel50_0 v, (e50_0 Rc hR _ v).trans h⟩) (fun _ => by kernel_rfl) (fun _ => by kernel_rfl) (fun _ _ => by kernel_rfl)
theorem okQ50_0 : ∀ n, FnOk Try.prog E 50 v50_0.enc (Q50_0 n) w50_0.enc
  | 0 => fun _ _ h => nomatch h
  | n + 1 => okD50_0 (Q50_0 n) (okQ50_0 n)
theorem ok50_0 : FnOk Try.prog E 50 v50_0.enc F50_0 w50_0.enc := fun v r h => okQ50_0 (depth50_0 v) v r h
/- slices.swapRangeCmpFunc[chicane/steward.place] -/
abbrev A52_1 : Type := Int × Int × Int
abbrev R52_1 : Type := Unit
def v52_1 : Pk G (Int × Int × Int) := (Pk.fst (pk (Sh.snd (Sh.cons Sh.any (Sh.cons (Sh.int .i64) (Sh.cons (Sh.int .i64) (Sh.fst (Sh.cons (Sh.int .i64) (Sh.snd (Sh.cons Sh.any Sh.nil)))))))) Sh.hnil))
def w52_1 : Wk G Unit := (Wk.one [] (Pk.snd (pk Sh.nil Sh.hnil)))
def c52_1_1 : Pk G (Int × Int × Int × Int) := (Pk.fst (pk (Sh.cons (Sh.int .i64) (Sh.cons (Sh.int .i64) (Sh.cons (Sh.int .i64) (Sh.fst (Sh.cons (Sh.int .i64) Sh.nil))))) Sh.hnil))
def B52_1_1 (K : ((Int × Int × Int × Int) → Option Unit)) (v : Int × Int × Int × Int) : Option Unit :=
  bif (decide (v.2.2.2 < v.2.2.1)) then
    none
  else
    some ()

def E52_1 (K : ((Int × Int × Int × Int) → Option Unit)) (v : Int × Int × Int) : Option Unit :=
  K (v.1, (v.2.1, (v.2.2, (0 : Int))))

def K52_1 : Nat → ((Int × Int × Int × Int) → Option Unit)
  | 0 => (fun _ => none)
  | n + 1 => (B52_1_1 (K52_1 n))
def fuel52_1 (v : Int × Int × Int) : Nat := 1000
def F52_1 (v : Int × Int × Int) : Option Unit := E52_1 (K52_1 (fuel52_1 v)) v
noncomputable def k52_1 : List (Known Try.prog E) := []
def s52_1_1 : List (Nat × Pat) := [(1, .keep), (2, .keep), (3, .keep), (10, .keep)]
noncomputable def L52_1 (n id : Nat) (st : St G) : Option Unit := match Nat.beq id 1 with | true => cutK Try.prog s52_1_1 [] c52_1_1.dec (K52_1 n) st | false => none
set_option maxRecDepth 100000 in
theorem e52_1 (n : Nat) (v : Int × Int × Int) : ev Try.prog E (oracle k52_1) Try.f52.ntmps (fun x => mem x [1]) (L52_1 n) (finF Try.prog E Try.f52.results.toList [[]] w52_1.alts) 4000 [.code (Try.f52.body.getD .skip)] (argSt (v52_1.enc v)) = E52_1 (K52_1 n) v := by kernel_rfl
set_option maxRecDepth 100000 in
theorem b52_1_1 (n : Nat) (v : Int × Int × Int × Int) : evCut Try.prog E (oracle k52_1) false 52 Try.f52.ntmps (fun x => mem x [1]) (L52_1 n) (finF Try.prog E Try.f52.results.toList [[]] w52_1.alts) 4000 (todoAt (Try.f52.body.getD .skip) 1) (cutSt s52_1_1 (c52_1_1.enc v)) = B52_1_1 (K52_1 n) v := by kernel_rfl
theorem ok52_1 : FnOk Try.prog E 52 v52_1.enc F52_1 w52_1.enc :=
  fn_known (fn := Try.f52) (c := (Try.f52.body.getD .skip)) Try.func52 (by kernel_rfl) rfl envOk (oracle_ok k52_1) mixed v52_1 F52_1 w52_1 [] [[]] (by kernel_rfl) [1] 4000 L52_1 (by kernel_rfl)
    (List.forall_mem_cons.2 ⟨⟨_, [], s52_1_1, c52_1_1.dec, c52_1_1.enc, fun n => (K52_1 n), c52_1_1.ok, fun _ _ => rfl, fun _ => rfl, by kernel_rfl, fun n v _ h => (b52_1_1 n v).trans h⟩, fun _ h => (nomatch h)⟩) (fun v _ h => ⟨fuel52_1 v, (e52_1 _ v).trans h⟩) (fun _ => by kernel_rfl) (fun _ => by kernel_rfl) (fun _ _ => by kernel_rfl)
/- slices.rotateCmpFunc[chicane/steward.place] -/
abbrev A51_1 : Type := Int × Int × Int
abbrev R51_1 : Type := Unit
def v51_1 : Pk G (Int × Int × Int) := (Pk.fst (pk (Sh.snd (Sh.cons Sh.any (Sh.cons (Sh.int .i64) (Sh.cons (Sh.int .i64) (Sh.fst (Sh.cons (Sh.int .i64) (Sh.snd (Sh.cons Sh.any Sh.nil)))))))) Sh.hnil))
def w51_1 : Wk G Unit := (Wk.one [] (Pk.snd (pk Sh.nil Sh.hnil)))
def c51_1_2 : Pk G (Int × Int × Int) := (Pk.fst (pk (Sh.cons (Sh.int .i64) (Sh.cons (Sh.int .i64) (Sh.fst (Sh.cons (Sh.int .i64) Sh.nil)))) Sh.hnil))
def B51_1_2 (K : ((Int × Int × Int) → Option Unit)) (v : Int × Int × Int) : Option Unit :=
  bif (v.2.1 != v.2.2) then
    bif (decide (v.2.1 > v.2.2)) then
      let x818 : Int := (IntKind.wrap .i64 (v.1 - v.2.1))
      (F52_1 (x818, (v.1, v.2.2))).bind fun _ =>
      let x820 : Int := (IntKind.wrap .i64 (v.2.1 - v.2.2))
      K (v.1, (x820, v.2.2))
    else
      let x821 : Int := (IntKind.wrap .i64 (v.1 - v.2.1))
      let x822 : Int := (IntKind.wrap .i64 (v.1 + v.2.2))
      let x823 : Int := (IntKind.wrap .i64 (x822 - v.2.1))
      (F52_1 (x821, (x823, v.2.1))).bind fun _ =>
      let x825 : Int := (IntKind.wrap .i64 (v.2.2 - v.2.1))
      K (v.1, (v.2.1, x825))
  else
    let x826 : Int := (IntKind.wrap .i64 (v.1 - v.2.1))
    (F52_1 (x826, (v.1, v.2.1))).bind fun _ =>
    some ()

def E51_1 (K : ((Int × Int × Int) → Option Unit)) (v : Int × Int × Int) : Option Unit :=
  let x816 : Int := (IntKind.wrap .i64 (v.2.1 - v.1))
  let x817 : Int := (IntKind.wrap .i64 (v.2.2 - v.2.1))
  K (v.2.1, (x816, x817))

def K51_1 : Nat → ((Int × Int × Int) → Option Unit)
  | 0 => (fun _ => none)
  | n + 1 => (B51_1_2 (K51_1 n))
def fuel51_1 (v : Int × Int × Int) : Nat := 1000
def F51_1 (v : Int × Int × Int) : Option Unit := E51_1 (K51_1 (fuel51_1 v)) v
noncomputable def k51_1 : List (Known Try.prog E) := [Known.of envOk [0, 1, 1, 1, 0] [.any, .keep, .keep, .keep, .any] v52_1 F52_1 w52_1 ok52_1]
def s51_1_2 : List (Nat × Pat) := [(2, .keep), (10, .keep), (11, .keep)]
noncomputable def L51_1 (n id : Nat) (st : St G) : Option Unit := match Nat.beq id 2 with | true => cutK Try.prog s51_1_2 [] c51_1_2.dec (K51_1 n) st | false => none
set_option maxRecDepth 100000 in
theorem e51_1 (n : Nat) (v : Int × Int × Int) : ev Try.prog E (oracle k51_1) Try.f51.ntmps (fun x => mem x [2]) (L51_1 n) (finF Try.prog E Try.f51.results.toList [[]] w51_1.alts) 4000 [.code (Try.f51.body.getD .skip)] (argSt (v51_1.enc v)) = E51_1 (K51_1 n) v := by kernel_rfl
set_option maxRecDepth 100000 in
theorem b51_1_2 (n : Nat) (v : Int × Int × Int) : evCut Try.prog E (oracle k51_1) false 51 Try.f51.ntmps (fun x => mem x [2]) (L51_1 n) (finF Try.prog E Try.f51.results.toList [[]] w51_1.alts) 4000 (todoAt (Try.f51.body.getD .skip) 2) (cutSt s51_1_2 (c51_1_2.enc v)) = B51_1_2 (K51_1 n) v := by kernel_rfl
theorem ok51_1 : FnOk Try.prog E 51 v51_1.enc F51_1 w51_1.enc :=
  fn_known (fn := Try.f51) (c := (Try.f51.body.getD .skip)) Try.func51 (by kernel_rfl) rfl envOk (oracle_ok k51_1) mixed v51_1 F51_1 w51_1 [] [[]] (by kernel_rfl) [2] 4000 L51_1 (by kernel_rfl)
    (List.forall_mem_cons.2 ⟨⟨_, [], s51_1_2, c51_1_2.dec, c51_1_2.enc, fun n => (K51_1 n), c51_1_2.ok, fun _ _ => rfl, fun _ => rfl, by kernel_rfl, fun n v _ h => (b51_1_2 n v).trans h⟩, fun _ h => (nomatch h)⟩) (fun v _ h => ⟨fuel51_1 v, (e51_1 _ v).trans h⟩) (fun _ => by kernel_rfl) (fun _ => by kernel_rfl) (fun _ _ => by kernel_rfl)
/- slices.symMergeCmpFunc[chicane/steward.place] -/
abbrev A50_1 : Type := Int × Int × Int
abbrev R50_1 : Type := Unit
def v50_1 : Pk G (Int × Int × Int) := (Pk.fst (pk (Sh.snd (Sh.cons Sh.any (Sh.cons (Sh.int .i64) (Sh.cons (Sh.int .i64) (Sh.fst (Sh.cons (Sh.int .i64) (Sh.snd (Sh.cons Sh.any Sh.nil)))))))) Sh.hnil))
def w50_1 : Wk G Unit := (Wk.one [] (Pk.snd (pk Sh.nil Sh.hnil)))
def c50_1_3 : Pk G (Int × Int × Int) := (Pk.fst (pk (Sh.cons (Sh.int .i64) (Sh.cons (Sh.int .i64) (Sh.fst (Sh.cons (Sh.int .i64) Sh.nil)))) Sh.hnil))
def c50_1_9 : Pk G (Int × Int) := (Pk.fst (pk (Sh.cons (Sh.int .i64) (Sh.fst (Sh.cons (Sh.int .i64) Sh.nil))) Sh.hnil))
def c50_1_15 : Pk G (Int × Int × Int) := (Pk.fst (pk (Sh.cons (Sh.int .i64) (Sh.cons (Sh.int .i64) (Sh.fst (Sh.cons (Sh.int .i64) Sh.nil)))) Sh.hnil))
def c50_1_21 : Pk G (Int × Int) := (Pk.fst (pk (Sh.cons (Sh.int .i64) (Sh.fst (Sh.cons (Sh.int .i64) Sh.nil))) Sh.hnil))
def c50_1_33 : Pk G (Int × Int × Int × Int × Int × Int × Int × Int) := (Pk.fst (pk (Sh.cons (Sh.int .i64) (Sh.cons (Sh.int .i64) (Sh.cons (Sh.int .i64) (Sh.cons (Sh.int .i64) (Sh.cons (Sh.int .i64) (Sh.cons (Sh.int .i64) (Sh.cons (Sh.int .i64) (Sh.fst (Sh.cons (Sh.int .i64) Sh.nil))))))))) Sh.hnil))
def B50_1_3 (Rc : (Int × Int × Int) → Option Unit) (K : ((Int × Int × Int) → Option Unit) × ((Int × Int) → Option Unit) × ((Int × Int × Int) → Option Unit) × ((Int × Int) → Option Unit) × ((Int × Int × Int × Int × Int × Int × Int × Int) → Option Unit)) (v : Int × Int × Int) : Option Unit :=
  bif (decide (v.2.1 < v.2.2)) then
    none
  else
    K.2.1 (v.2.1, v.1)

def B50_1_9 (Rc : (Int × Int × Int) → Option Unit) (K : ((Int × Int × Int) → Option Unit) × ((Int × Int) → Option Unit) × ((Int × Int × Int) → Option Unit) × ((Int × Int) → Option Unit) × ((Int × Int × Int × Int × Int × Int × Int × Int) → Option Unit)) (v : Int × Int) : Option Unit :=
  let x906 : Int := (IntKind.wrap .i64 (v.1 - (1 : Int)))
  bif (decide (v.2 < x906)) then
    none
  else
    some ()

def B50_1_15 (Rc : (Int × Int × Int) → Option Unit) (K : ((Int × Int × Int) → Option Unit) × ((Int × Int) → Option Unit) × ((Int × Int × Int) → Option Unit) × ((Int × Int) → Option Unit) × ((Int × Int × Int × Int × Int × Int × Int × Int) → Option Unit)) (v : Int × Int × Int) : Option Unit :=
  bif (decide (v.2.1 < v.2.2)) then
    none
  else
    K.2.2.2.1 (v.2.1, v.1)

def B50_1_21 (Rc : (Int × Int × Int) → Option Unit) (K : ((Int × Int × Int) → Option Unit) × ((Int × Int) → Option Unit) × ((Int × Int × Int) → Option Unit) × ((Int × Int) → Option Unit) × ((Int × Int × Int × Int × Int × Int × Int × Int) → Option Unit)) (v : Int × Int) : Option Unit :=
  bif (decide (v.2 > v.1)) then
    none
  else
    some ()

def B50_1_33 (Rc : (Int × Int × Int) → Option Unit) (K : ((Int × Int × Int) → Option Unit) × ((Int × Int) → Option Unit) × ((Int × Int × Int) → Option Unit) × ((Int × Int) → Option Unit) × ((Int × Int × Int × Int × Int × Int × Int × Int) → Option Unit)) (v : Int × Int × Int × Int × Int × Int × Int × Int) : Option Unit :=
  bif (decide (v.2.2.2.2.2.1 < v.2.2.2.2.2.2.1)) then
    none
  else
    let x920 : Int := (IntKind.wrap .i64 (v.2.2.2.2.1 - v.2.2.2.2.2.1))
    bif (decide (v.2.2.2.2.2.1 < v.2.1)) then
      bif (decide (v.2.1 < x920)) then
        (F51_1 (v.2.2.2.2.2.1, (v.2.1, x920))).bind fun _ =>
        bif (decide (v.1 < v.2.2.2.2.2.1)) then
          bif (decide (v.2.2.2.2.2.1 < v.2.2.2.1)) then
            (Rc (v.1, (v.2.2.2.2.2.1, v.2.2.2.1))).bind fun _ =>
            bif (decide (v.2.2.2.1 < x920)) then
              bif (decide (x920 < v.2.2.1)) then
                (Rc (v.2.2.2.1, (x920, v.2.2.1))).bind fun _ =>
                some ()
              else
                some ()
            else
              some ()
          else
            bif (decide (v.2.2.2.1 < x920)) then
              bif (decide (x920 < v.2.2.1)) then
                (Rc (v.2.2.2.1, (x920, v.2.2.1))).bind fun _ =>
                some ()
              else
                some ()
            else
              some ()
        else
          bif (decide (v.2.2.2.1 < x920)) then
            bif (decide (x920 < v.2.2.1)) then
              (Rc (v.2.2.2.1, (x920, v.2.2.1))).bind fun _ =>
              some ()
            else
              some ()
          else
            some ()
      else
        bif (decide (v.1 < v.2.2.2.2.2.1)) then
          bif (decide (v.2.2.2.2.2.1 < v.2.2.2.1)) then
            (Rc (v.1, (v.2.2.2.2.2.1, v.2.2.2.1))).bind fun _ =>
            bif (decide (v.2.2.2.1 < x920)) then
              bif (decide (x920 < v.2.2.1)) then
                (Rc (v.2.2.2.1, (x920, v.2.2.1))).bind fun _ =>
                some ()
              else
                some ()
            else
              some ()
          else
            bif (decide (v.2.2.2.1 < x920)) then
              bif (decide (x920 < v.2.2.1)) then
                (Rc (v.2.2.2.1, (x920, v.2.2.1))).bind fun _ =>
                some ()
              else
                some ()
            else
              some ()
        else
          bif (decide (v.2.2.2.1 < x920)) then
            bif (decide (x920 < v.2.2.1)) then
              (Rc (v.2.2.2.1, (x920, v.2.2.1))).bind fun _ =>
              some ()
            else
              some ()
          else
            some ()
    else
      bif (decide (v.1 < v.2.2.2.2.2.1)) then
        bif (decide (v.2.2.2.2.2.1 < v.2.2.2.1)) then
          (Rc (v.1, (v.2.2.2.2.2.1, v.2.2.2.1))).bind fun _ =>
          bif (decide (v.2.2.2.1 < x920)) then
            bif (decide (x920 < v.2.2.1)) then
              (Rc (v.2.2.2.1, (x920, v.2.2.1))).bind fun _ =>
              some ()
            else
              some ()
          else
            some ()
        else
          bif (decide (v.2.2.2.1 < x920)) then
            bif (decide (x920 < v.2.2.1)) then
              (Rc (v.2.2.2.1, (x920, v.2.2.1))).bind fun _ =>
              some ()
            else
              some ()
          else
            some ()
      else
        bif (decide (v.2.2.2.1 < x920)) then
          bif (decide (x920 < v.2.2.1)) then
            (Rc (v.2.2.2.1, (x920, v.2.2.1))).bind fun _ =>
            some ()
          else
            some ()
        else
          some ()

def E50_1 (Rc : (Int × Int × Int) → Option Unit) (K : ((Int × Int × Int) → Option Unit) × ((Int × Int) → Option Unit) × ((Int × Int × Int) → Option Unit) × ((Int × Int) → Option Unit) × ((Int × Int × Int × Int × Int × Int × Int × Int) → Option Unit)) (v : Int × Int × Int) : Option Unit :=
  let x892 : Int := (IntKind.wrap .i64 (v.2.1 - v.1))
  bif (x892 == (1 : Int)) then
    K.1 (v)
  else
    let x893 : Int := (IntKind.wrap .i64 (v.2.2 - v.2.1))
    bif (x893 == (1 : Int)) then
      K.2.2.1 (v.2.1, (v.1, v.2.1))
    else
      let x894 : Int := (IntKind.wrap .i64 (v.1 + v.2.2))
      let x895 : Int := (IntKind.wrap .u64 x894)
      let x896 : Int := (Int.fdiv x895 (2 ^ 1))
      let x897 : Int := (IntKind.wrap .i64 x896)
      let x898 : Int := (IntKind.wrap .i64 (x897 + v.2.1))
      bif (decide (v.2.1 > x897)) then
        let x899 : Int := (IntKind.wrap .i64 (x898 - v.2.2))
        let x900 : Int := (IntKind.wrap .i64 (x898 - (1 : Int)))
        K.2.2.2.2 (v.1, (v.2.1, (v.2.2, (x897, (x898, (x899, (x897, x900)))))))
      else
        let x901 : Int := (IntKind.wrap .i64 (x898 - (1 : Int)))
        K.2.2.2.2 (v.1, (v.2.1, (v.2.2, (x897, (x898, (v.1, (v.2.1, x901)))))))

def K50_1 (Rc : (Int × Int × Int) → Option Unit) : Nat → ((Int × Int × Int) → Option Unit) × ((Int × Int) → Option Unit) × ((Int × Int × Int) → Option Unit) × ((Int × Int) → Option Unit) × ((Int × Int × Int × Int × Int × Int × Int × Int) → Option Unit)
  | 0 => (fun _ => none, fun _ => none, fun _ => none, fun _ => none, fun _ => none)
  | n + 1 => (B50_1_3 Rc (K50_1 Rc n), B50_1_9 Rc (K50_1 Rc n), B50_1_15 Rc (K50_1 Rc n), B50_1_21 Rc (K50_1 Rc n), B50_1_33 Rc (K50_1 Rc n))
def fuel50_1 (v : Int × Int × Int) : Nat := 1000
def D50_1 (Rc : (Int × Int × Int) → Option Unit) (v : Int × Int × Int) : Option Unit := E50_1 Rc (K50_1 Rc (fuel50_1 v)) v
def Q50_1 : Nat → (Int × Int × Int) → Option Unit
  | 0 => fun _ => none
  | n + 1 => D50_1 (Q50_1 n)
def depth50_1 (v : Int × Int × Int) : Nat := 100
def F50_1 (v : Int × Int × Int) : Option Unit := Q50_1 (depth50_1 v) v
noncomputable def k50_1 (Rc : (Int × Int × Int) → Option Unit) (hR : FnOk Try.prog E 50 v50_1.enc Rc w50_1.enc) : List (Known Try.prog E) := [Known.of envOk [0, 1, 1, 1, 0] [.any, .keep, .keep, .keep, .any] v51_1 F51_1 w51_1 ok51_1, Known.of envOk [0, 1, 1, 1, 0] [.any, .keep, .keep, .keep, .any] v50_1 Rc w50_1 hR]
def s50_1_33 : List (Nat × Pat) := [(1, .keep), (2, .keep), (3, .keep), (18, .keep), (19, .keep), (20, .keep), (21, .keep), (22, .keep)]
def s50_1_21 : List (Nat × Pat) := [(14, .keep), (17, .keep)]
def s50_1_15 : List (Nat × Pat) := [(2, .keep), (14, .keep), (15, .keep)]
def s50_1_9 : List (Nat × Pat) := [(10, .keep), (13, .keep)]
def s50_1_3 : List (Nat × Pat) := [(1, .keep), (10, .keep), (11, .keep)]
noncomputable def L50_1 (Rc : (Int × Int × Int) → Option Unit) (n id : Nat) (st : St G) : Option Unit := match Nat.beq id 3 with | true => cutK Try.prog s50_1_3 [] c50_1_3.dec (K50_1 Rc n).1 st | false => match Nat.beq id 9 with | true => cutK Try.prog s50_1_9 [] c50_1_9.dec (K50_1 Rc n).2.1 st | false => match Nat.beq id 15 with | true => cutK Try.prog s50_1_15 [] c50_1_15.dec (K50_1 Rc n).2.2.1 st | false => match Nat.beq id 21 with | true => cutK Try.prog s50_1_21 [] c50_1_21.dec (K50_1 Rc n).2.2.2.1 st | false => match Nat.beq id 33 with | true => cutK Try.prog s50_1_33 [] c50_1_33.dec (K50_1 Rc n).2.2.2.2 st | false => none
set_option maxRecDepth 100000 in
theorem e50_1 (Rc : (Int × Int × Int) → Option Unit) (hR : FnOk Try.prog E 50 v50_1.enc Rc w50_1.enc) (n : Nat) (v : Int × Int × Int) : ev Try.prog E (oracle (k50_1 Rc hR)) Try.f50.ntmps (fun x => mem x [3, 9, 15, 21, 33]) (L50_1 Rc n) (finF Try.prog E Try.f50.results.toList [[]] w50_1.alts) 4000 [.code (Try.f50.body.getD .skip)] (argSt (v50_1.enc v)) = E50_1 Rc (K50_1 Rc n) v := by kernel_rfl
set_option maxRecDepth 100000 in
theorem b50_1_3 (Rc : (Int × Int × Int) → Option Unit) (hR : FnOk Try.prog E 50 v50_1.enc Rc w50_1.enc) (n : Nat) (v : Int × Int × Int) : evCut Try.prog E (oracle (k50_1 Rc hR)) false 50 Try.f50.ntmps (fun x => mem x [3, 9, 15, 21, 33]) (L50_1 Rc n) (finF Try.prog E Try.f50.results.toList [[]] w50_1.alts) 4000 (todoAt (Try.f50.body.getD .skip) 3) (cutSt s50_1_3 (c50_1_3.enc v)) = B50_1_3 Rc (K50_1 Rc n) v := by kernel_rfl
set_option maxRecDepth 100000 in
theorem b50_1_9 (Rc : (Int × Int × Int) → Option Unit) (hR : FnOk Try.prog E 50 v50_1.enc Rc w50_1.enc) (n : Nat) (v : Int × Int) : evCut Try.prog E (oracle (k50_1 Rc hR)) false 50 Try.f50.ntmps (fun x => mem x [3, 9, 15, 21, 33]) (L50_1 Rc n) (finF Try.prog E Try.f50.results.toList [[]] w50_1.alts) 4000 (todoAt (Try.f50.body.getD .skip) 9) (cutSt s50_1_9 (c50_1_9.enc v)) = B50_1_9 Rc (K50_1 Rc n) v := by kernel_rfl
set_option maxRecDepth 100000 in
theorem b50_1_15 (Rc : (Int × Int × Int) → Option Unit) (hR : FnOk Try.prog E 50 v50_1.enc Rc w50_1.enc) (n : Nat) (v : Int × Int × Int) : evCut Try.prog E (oracle (k50_1 Rc hR)) false 50 Try.f50.ntmps (fun x => mem x [3, 9, 15, 21, 33]) (L50_1 Rc n) (finF Try.prog E Try.f50.results.toList [[]] w50_1.alts) 4000 (todoAt (Try.f50.body.getD .skip) 15) (cutSt s50_1_15 (c50_1_15.enc v)) = B50_1_15 Rc (K50_1 Rc n) v := by kernel_rfl
set_option maxRecDepth 100000 in
theorem b50_1_21 (Rc : (Int × Int × Int) → Option Unit) (hR : FnOk Try.prog E 50 v50_1.enc Rc w50_1.enc) (n : Nat) (v : Int × Int) : evCut Try.prog E (oracle (k50_1 Rc hR)) false 50 Try.f50.ntmps (fun x => mem x [3, 9, 15, 21, 33]) (L50_1 Rc n) (finF Try.prog E Try.f50.results.toList [[]] w50_1.alts) 4000 (todoAt (Try.f50.body.getD .skip) 21) (cutSt s50_1_21 (c50_1_21.enc v)) = B50_1_21 Rc (K50_1 Rc n) v := by kernel_rfl
set_option maxRecDepth 100000 in
theorem b50_1_33 (Rc : (Int × Int × Int) → Option Unit) (hR : FnOk Try.prog E 50 v50_1.enc Rc w50_1.enc) (n : Nat) (v : Int × Int × Int × Int × Int × Int × Int × Int) : evCut Try.prog E (oracle (k50_1 Rc hR)) false 50 Try.f50.ntmps (fun x => mem x [3, 9, 15, 21, 33]) (L50_1 Rc n) (finF Try.prog E Try.f50.results.toList [[]] w50_1.alts) 4000 (todoAt (Try.f50.body.getD .skip) 33) (cutSt s50_1_33 (c50_1_33.enc v)) = B50_1_33 Rc (K50_1 Rc n) v := by kernel_rfl
theorem okD50_1 (Rc : (Int × Int × Int) → Option Unit) (hR : FnOk Try.prog E 50 v50_1.enc Rc w50_1.enc) : FnOk Try.prog E 50 v50_1.enc (D50_1 Rc) w50_1.enc :=
  fn_known (fn := Try.f50) (c := (Try.f50.body.getD .skip)) Try.func50 (by kernel_rfl) rfl envOk (oracle_ok (k50_1 Rc hR)) mixed v50_1 (D50_1 Rc) w50_1 [] [[]] (by kernel_rfl) [3, 9, 15, 21, 33] 4000 (L50_1 Rc) (by kernel_rfl)
    (List.forall_mem_cons.2 ⟨⟨_, [], s50_1_3, c50_1_3.dec, c50_1_3.enc, fun n => (K50_1 Rc n).1, c50_1_3.ok, fun _ _ => rfl, fun _ => rfl, by kernel_rfl, fun n v _ h => (b50_1_3 Rc hR n v).trans h⟩, List.forall_mem_cons.2 ⟨⟨_, [], s50_1_9, c50_1_9.dec, c50_1_9.enc, fun n => (K50_1 Rc n).2.1, c50_1_9.ok, fun _ _ => rfl, fun _ => rfl, by kernel_rfl, fun n v _ h => (b50_1_9 Rc hR n v).trans h⟩, List.forall_mem_cons.2 ⟨⟨_, [], s50_1_15, c50_1_15.dec, c50_1_15.enc, fun n => (K50_1 Rc n).2.2.1, c50_1_15.ok, fun _ _ => rfl, fun _ => rfl, by kernel_rfl, fun n v _ h => (b50_1_15 Rc hR n v).trans h⟩, List.forall_mem_cons.2 ⟨⟨_, [], s50_1_21, c50_1_21.dec, c50_1_21.enc, fun n => (K50_1 Rc n).2.2.2.1, c50_1_21.ok, fun _ _ => rfl, fun _ => rfl, by kernel_rfl, fun n v _ h => (b50_1_21 Rc hR n v).trans h⟩, List.forall_mem_cons.2 ⟨⟨_, [], s50_1_33, c50_1_33.dec, c50_1_33.enc, fun n => (K50_1 Rc n).2.2.2.2, c50_1_33.ok, fun _ _ => rfl, fun _ => rfl, by kernel_rfl, fun n v _ h => (b50_1_33 Rc hR n v).trans h⟩, fun _ h => (nomatch h)⟩⟩⟩⟩⟩) (fun v _ h => ⟨fuel50_1 v, (e50_1 Rc hR _ v).trans h⟩) (fun _ => by kernel_rfl) (fun _ => by kernel_rfl) (fun _ _ => by kernel_rfl)
theorem okQ50_1 : ∀ n, FnOk Try.prog E 50 v50_1.enc (Q50_1 n) w50_1.enc
  | 0 => fun _ _ h => nomatch h
  | n + 1 => okD50_1 (Q50_1 n) (okQ50_1 n)
theorem ok50_1 : FnOk Try.prog E 50 v50_1.enc F50_1 w50_1.enc := fun v r h => okQ50_1 (depth50_1 v) v r h
/- slices.stableCmpFunc[chicane/steward.place] -/
abbrev A48_0 : Type := Int × List (Int × Int)
abbrev R48_0 : Type := List (Int × Int)
def v48_0 : Pk G (Int × List (Int × Int)) := (pk (Sh.snd (Sh.cons (Sh.osl 0) (Sh.fst (Sh.cons (Sh.int .i64) (Sh.snd (Sh.cons (Sh.snd (Sh.fn (.func 43) Sh.nil Sh.nil)) Sh.nil)))))) (Sh.fst (Sh.hrow 0 87 Sh.hnil)))
def w48_0 : Wk G (List (Int × Int)) := (Wk.one [] (Pk.snd (pk Sh.nil (Sh.fst (Sh.hrow 0 87 Sh.hnil)))))
def c48_0_2 : Pk G ((Int × Int × Int × Int) × List (Int × Int)) := (pk (Sh.snd (Sh.cons (Sh.osl 0) (Sh.cons (Sh.int .i64) (Sh.snd (Sh.cons (Sh.snd (Sh.fn (.func 43) Sh.nil Sh.nil)) (Sh.cons (Sh.int .i64) (Sh.cons (Sh.int .i64) (Sh.fst (Sh.cons (Sh.int .i64) Sh.nil))))))))) (Sh.fst (Sh.hrow 0 87 Sh.hnil)))
def c48_0_7 : Pk G ((Int × Int) × List (Int × Int)) := (pk (Sh.snd (Sh.cons (Sh.osl 0) (Sh.cons (Sh.int .i64) (Sh.snd (Sh.cons (Sh.snd (Sh.fn (.func 43) Sh.nil Sh.nil)) (Sh.fst (Sh.cons (Sh.int .i64) Sh.nil))))))) (Sh.fst (Sh.hrow 0 87 Sh.hnil)))
def c48_0_9 : Pk G ((Int × Int × Int × Int) × List (Int × Int)) := (pk (Sh.snd (Sh.cons (Sh.osl 0) (Sh.cons (Sh.int .i64) (Sh.snd (Sh.cons (Sh.snd (Sh.fn (.func 43) Sh.nil Sh.nil)) (Sh.cons (Sh.int .i64) (Sh.cons (Sh.int .i64) (Sh.fst (Sh.cons (Sh.int .i64) Sh.nil))))))))) (Sh.fst (Sh.hrow 0 87 Sh.hnil)))
def B48_0_2 (K : (((Int × Int × Int × Int) × List (Int × Int)) → Option (List (Int × Int))) × (((Int × Int) × List (Int × Int)) → Option (List (Int × Int))) × (((Int × Int × Int × Int) × List (Int × Int)) → Option (List (Int × Int)))) (v : (Int × Int × Int × Int) × List (Int × Int)) : Option (List (Int × Int)) :=
  bif (decide (v.1.2.2.2 ≤ v.1.1)) then
    (F49_0 (v.1.2.2, v.2)).bind fun r971 =>
    let x972 : Int := (IntKind.wrap .i64 (v.1.2.2.2 + v.1.2.1))
    K.1 ((v.1.1, (v.1.2.1, (v.1.2.2.2, x972))), r971)
  else
    (F49_0 ((v.1.2.2.1, v.1.1), v.2)).bind fun r973 =>
    K.2.1 ((v.1.1, v.1.2.1), r973)

def B48_0_7 (K : (((Int × Int × Int × Int) × List (Int × Int)) → Option (List (Int × Int))) × (((Int × Int) × List (Int × Int)) → Option (List (Int × Int))) × (((Int × Int × Int × Int) × List (Int × Int)) → Option (List (Int × Int)))) (v : (Int × Int) × List (Int × Int)) : Option (List (Int × Int)) :=
  bif (decide (v.1.2 < v.1.1)) then
    let x974 : Int := (IntKind.wrap .i64 ((2 : Int) * v.1.2))
    K.2.2 ((v.1.1, (v.1.2, ((0 : Int), x974))), v.2)
  else
    some (v.2)

def B48_0_9 (K : (((Int × Int × Int × Int) × List (Int × Int)) → Option (List (Int × Int))) × (((Int × Int) × List (Int × Int)) → Option (List (Int × Int))) × (((Int × Int × Int × Int) × List (Int × Int)) → Option (List (Int × Int)))) (v : (Int × Int × Int × Int) × List (Int × Int)) : Option (List (Int × Int)) :=
  bif (decide (v.1.2.2.2 ≤ v.1.1)) then
    let x975 : Int := (IntKind.wrap .i64 (v.1.2.2.1 + v.1.2.1))
    (F50_0 ((v.1.2.2.1, (x975, v.1.2.2.2)), v.2)).bind fun r976 =>
    let x977 : Int := (IntKind.wrap .i64 ((2 : Int) * v.1.2.1))
    let x978 : Int := (IntKind.wrap .i64 (v.1.2.2.2 + x977))
    K.2.2 ((v.1.1, (v.1.2.1, (v.1.2.2.2, x978))), r976)
  else
    let x979 : Int := (IntKind.wrap .i64 (v.1.2.2.1 + v.1.2.1))
    bif (decide (x979 < v.1.1)) then
      (F50_0 ((v.1.2.2.1, (x979, v.1.1)), v.2)).bind fun r980 =>
      let x981 : Int := (IntKind.wrap .i64 (v.1.2.1 * (2 : Int)))
      K.2.1 ((v.1.1, x981), r980)
    else
      let x982 : Int := (IntKind.wrap .i64 (v.1.2.1 * (2 : Int)))
      K.2.1 ((v.1.1, x982), v.2)

def E48_0 (K : (((Int × Int × Int × Int) × List (Int × Int)) → Option (List (Int × Int))) × (((Int × Int) × List (Int × Int)) → Option (List (Int × Int))) × (((Int × Int × Int × Int) × List (Int × Int)) → Option (List (Int × Int)))) (v : Int × List (Int × Int)) : Option (List (Int × Int)) :=
  K.1 ((v.1, ((20 : Int), ((0 : Int), (20 : Int)))), v.2)

def K48_0 : Nat → (((Int × Int × Int × Int) × List (Int × Int)) → Option (List (Int × Int))) × (((Int × Int) × List (Int × Int)) → Option (List (Int × Int))) × (((Int × Int × Int × Int) × List (Int × Int)) → Option (List (Int × Int)))
  | 0 => (fun _ => none, fun _ => none, fun _ => none)
  | n + 1 => (B48_0_2 (K48_0 n), B48_0_7 (K48_0 n), B48_0_9 (K48_0 n))
def fuel48_0 (v : Int × List (Int × Int)) : Nat := 1000
def F48_0 (v : Int × List (Int × Int)) : Option (List (Int × Int)) := E48_0 (K48_0 (fuel48_0 v)) v
noncomputable def k48_0 : List (Known Try.prog E) := [Known.of envOk [7, 1, 1, 143] [(.own 0 87), .keep, .keep, (.fn (.func 43) [] [])] v49_0 F49_0 w49_0 ok49_0, Known.of envOk [7, 1, 1, 1, 143] [(.own 0 87), .keep, .keep, .keep, (.fn (.func 43) [] [])] v50_0 F50_0 w50_0 ok50_0]
def s48_0_9 : List (Nat × Pat) := [(0, (.own 0 87)), (1, .keep), (2, (.fn (.func 43) [] [])), (6, .keep), (7, .keep), (8, .keep)]
def s48_0_7 : List (Nat × Pat) := [(0, (.own 0 87)), (1, .keep), (2, (.fn (.func 43) [] [])), (6, .keep)]
def s48_0_2 : List (Nat × Pat) := [(0, (.own 0 87)), (1, .keep), (2, (.fn (.func 43) [] [])), (6, .keep), (7, .keep), (8, .keep)]
noncomputable def L48_0 (n id : Nat) (st : St G) : Option (List (Int × Int)) := match Nat.beq id 2 with | true => cutK Try.prog s48_0_2 [(.own 0 87)] c48_0_2.dec (K48_0 n).1 st | false => match Nat.beq id 7 with | true => cutK Try.prog s48_0_7 [(.own 0 87)] c48_0_7.dec (K48_0 n).2.1 st | false => match Nat.beq id 9 with | true => cutK Try.prog s48_0_9 [(.own 0 87)] c48_0_9.dec (K48_0 n).2.2 st | false => none
set_option maxRecDepth 100000 in
theorem e48_0 (n : Nat) (v : Int × List (Int × Int)) : ev Try.prog E (oracle k48_0) Try.f48.ntmps (fun x => mem x [2, 7, 9]) (L48_0 n) (finF Try.prog E Try.f48.results.toList [[(.own 0 87)]] w48_0.alts) 4000 [.code (Try.f48.body.getD .skip)] (argSt (v48_0.enc v)) = E48_0 (K48_0 n) v := by kernel_rfl
set_option maxRecDepth 100000 in
theorem b48_0_2 (n : Nat) (v : (Int × Int × Int × Int) × List (Int × Int)) : evCut Try.prog E (oracle k48_0) false 48 Try.f48.ntmps (fun x => mem x [2, 7, 9]) (L48_0 n) (finF Try.prog E Try.f48.results.toList [[(.own 0 87)]] w48_0.alts) 4000 (todoAt (Try.f48.body.getD .skip) 2) (cutSt s48_0_2 (c48_0_2.enc v)) = B48_0_2 (K48_0 n) v := by kernel_rfl
set_option maxRecDepth 100000 in
theorem b48_0_7 (n : Nat) (v : (Int × Int) × List (Int × Int)) : evCut Try.prog E (oracle k48_0) false 48 Try.f48.ntmps (fun x => mem x [2, 7, 9]) (L48_0 n) (finF Try.prog E Try.f48.results.toList [[(.own 0 87)]] w48_0.alts) 4000 (todoAt (Try.f48.body.getD .skip) 7) (cutSt s48_0_7 (c48_0_7.enc v)) = B48_0_7 (K48_0 n) v := by kernel_rfl
set_option maxRecDepth 100000 in
theorem b48_0_9 (n : Nat) (v : (Int × Int × Int × Int) × List (Int × Int)) : evCut Try.prog E (oracle k48_0) false 48 Try.f48.ntmps (fun x => mem x [2, 7, 9]) (L48_0 n) (finF Try.prog E Try.f48.results.toList [[(.own 0 87)]] w48_0.alts) 4000 (todoAt (Try.f48.body.getD .skip) 9) (cutSt s48_0_9 (c48_0_9.enc v)) = B48_0_9 (K48_0 n) v := by kernel_rfl
theorem ok48_0 : FnOk Try.prog E 48 v48_0.enc F48_0 w48_0.enc :=
  fn_known (fn := Try.f48) (c := (Try.f48.body.getD .skip)) Try.func48 (by kernel_rfl) rfl envOk (oracle_ok k48_0) mixed v48_0 F48_0 w48_0 [(.own 0 87)] [[(.own 0 87)]] (by kernel_rfl) [2, 7, 9] 4000 L48_0 (by kernel_rfl)
    (List.forall_mem_cons.2 ⟨⟨_, [(.own 0 87)], s48_0_2, c48_0_2.dec, c48_0_2.enc, fun n => (K48_0 n).1, c48_0_2.ok, fun _ _ => rfl, fun _ => rfl, by kernel_rfl, fun n v _ h => (b48_0_2 n v).trans h⟩, List.forall_mem_cons.2 ⟨⟨_, [(.own 0 87)], s48_0_7, c48_0_7.dec, c48_0_7.enc, fun n => (K48_0 n).2.1, c48_0_7.ok, fun _ _ => rfl, fun _ => rfl, by kernel_rfl, fun n v _ h => (b48_0_7 n v).trans h⟩, List.forall_mem_cons.2 ⟨⟨_, [(.own 0 87)], s48_0_9, c48_0_9.dec, c48_0_9.enc, fun n => (K48_0 n).2.2, c48_0_9.ok, fun _ _ => rfl, fun _ => rfl, by kernel_rfl, fun n v _ h => (b48_0_9 n v).trans h⟩, fun _ h => (nomatch h)⟩⟩⟩) (fun v _ h => ⟨fuel48_0 v, (e48_0 _ v).trans h⟩) (fun _ => by kernel_rfl) (fun _ => by kernel_rfl) (fun _ _ => by kernel_rfl)
/- slices.SortStableFunc[[]chicane/steward.place,chicane/steward.place] -/
abbrev A42_0 : Type := List (Int × Int)
abbrev R42_0 : Type := List (Int × Int)
def v42_0 : Pk G (List (Int × Int)) := (Pk.snd (pk (Sh.snd (Sh.cons (Sh.osl 0) (Sh.snd (Sh.cons (Sh.snd (Sh.fn (.func 43) Sh.nil Sh.nil)) Sh.nil)))) (Sh.fst (Sh.hrow 0 87 Sh.hnil))))
def w42_0 : Wk G (List (Int × Int)) := (Wk.one [] (Pk.snd (pk Sh.nil (Sh.fst (Sh.hrow 0 87 Sh.hnil)))))
def F42_0 (v : List (Int × Int)) : Option (List (Int × Int)) :=
  (F48_0 (((v).length : Int), v)).bind fun r985 =>
  some (r985)

noncomputable def k42_0 : List (Known Try.prog E) := [Known.of envOk [7, 1, 143] [(.own 0 87), .keep, (.fn (.func 43) [] [])] v48_0 F48_0 w48_0 ok48_0]
noncomputable def L42_0 (n id : Nat) (st : St G) : Option (List (Int × Int)) := none
set_option maxRecDepth 100000 in
theorem e42_0 (n : Nat) (v : List (Int × Int)) : ev Try.prog E (oracle k42_0) Try.f42.ntmps (fun x => mem x []) (L42_0 n) (finF Try.prog E Try.f42.results.toList [[(.own 0 87)]] w42_0.alts) 4000 [.code (Try.f42.body.getD .skip)] (argSt (v42_0.enc v)) = F42_0 v := by kernel_rfl
theorem ok42_0 : FnOk Try.prog E 42 v42_0.enc F42_0 w42_0.enc :=
  fn_known (fn := Try.f42) (c := (Try.f42.body.getD .skip)) Try.func42 (by kernel_rfl) rfl envOk (oracle_ok k42_0) mixed v42_0 F42_0 w42_0 [(.own 0 87)] [[(.own 0 87)]] (by kernel_rfl) [] 4000 L42_0 (by kernel_rfl)
    (fun _ h => nomatch h) (fun v _ h => ⟨0, (e42_0 _ v).trans h⟩) (fun _ => by kernel_rfl) (fun _ => by kernel_rfl) (fun _ _ => by kernel_rfl)
/- chicane/steward.Classify -/
abbrev A29_0 : Type := (Int × Int × Int × Int) × List (List (Int × Int × Int × Int))
abbrev R29_0 : Type := List Int × List Int
def v29_0 : Pk G ((Int × Int × Int × Int) × List (List (Int × Int × Int × Int))) := (Pk.fst (pk (Sh.cons (Sh.agg (Sh.cons (Sh.int .i64) (Sh.cons (Sh.int .i64) (Sh.cons (Sh.int .i64) (Sh.fst (Sh.cons (Sh.int .i64) Sh.nil)))))) (Sh.fst (Sh.cons (Sh.ros 25) Sh.nil))) Sh.hnil))
def w29_0 : Wk G (List Int × List Int) := (Wk.one [(.own 0 3), (.own 1 22)] (Pk.snd (pk (Sh.snd (Sh.cons (Sh.osl 0) (Sh.snd (Sh.cons (Sh.osl 1) Sh.nil)))) (Sh.hrow 1 22 (Sh.fst (Sh.hrow 0 3 Sh.hnil))))))
def c29_0_3 : Pk G (((List (List (Int × Int × Int × Int))) × Int × Int) × (List (Int × Int)) × Int × Int × Int × Int) := (pk (Sh.snd (Sh.cons (Sh.ptr 0 0) (Sh.snd (Sh.cons (Sh.osl 1) (Sh.cons (Sh.ros 25) (Sh.cons (Sh.int .i64) (Sh.fst (Sh.cons (Sh.int .i64) Sh.nil)))))))) (Sh.hrow 1 87 (Sh.fst (Sh.hfix 0 24 (Sh.cons (Sh.int .i64) (Sh.cons (Sh.int .i64) (Sh.cons (Sh.int .i64) (Sh.fst (Sh.cons (Sh.int .i64) Sh.nil))))) Sh.hnil))))
def c29_0_13 : Pk G ((Int × Int) × (List (Int × Int)) × List Int × List Int) := (pk (Sh.snd (Sh.cons (Sh.osl 0) (Sh.snd (Sh.cons (Sh.osl 1) (Sh.snd (Sh.cons (Sh.osl 2) (Sh.cons (Sh.int .i64) (Sh.fst (Sh.cons (Sh.int .i64) Sh.nil))))))))) (Sh.hrow 2 87 (Sh.hrow 1 22 (Sh.fst (Sh.hrow 0 3 Sh.hnil)))))
def B29_0_3 (K : ((((List (List (Int × Int × Int × Int))) × Int × Int) × (List (Int × Int)) × Int × Int × Int × Int) → Option (List Int × List Int)) × (((Int × Int) × (List (Int × Int)) × List Int × List Int) → Option (List Int × List Int))) (v : ((List (List (Int × Int × Int × Int))) × Int × Int) × (List (Int × Int)) × Int × Int × Int × Int) : Option (List Int × List Int) :=
  bif (decide (v.1.2.2 < v.1.2.1)) then
    (rdx v.1.1 v.1.2.2).bind fun (x1006 : List (Int × Int × Int × Int)) =>
    (F41_0 (v.2.2, x1006)).bind fun r1007 =>
    bif r1007.2 then
      (chk (decide (((v.2.1).length + (([(v.1.2.2, r1007.1)] : List (Int × Int))).length) * 16 ≤ 140737488355328))).bind fun _ =>
      let x1008 : List (Int × Int) := (v.2.1 ++ ([(v.1.2.2, r1007.1)] : List (Int × Int)))
      let x1009 : Int := (IntKind.wrap .i64 (v.1.2.2 + (1 : Int)))
      K.1 ((v.1.1, (v.1.2.1, x1009)), (x1008, v.2.2))
    else
      let x1010 : Int := (IntKind.wrap .i64 (v.1.2.2 + (1 : Int)))
      K.1 ((v.1.1, (v.1.2.1, x1010)), v.2)
  else
    (F42_0 v.2.1).bind fun r1011 =>
    K.2 ((((r1011).length : Int), (0 : Int)), (r1011, (([] : List Int), ([] : List Int))))

def B29_0_13 (K : ((((List (List (Int × Int × Int × Int))) × Int × Int) × (List (Int × Int)) × Int × Int × Int × Int) → Option (List Int × List Int)) × (((Int × Int) × (List (Int × Int)) × List Int × List Int) → Option (List Int × List Int))) (v : (Int × Int) × (List (Int × Int)) × List Int × List Int) : Option (List Int × List Int) :=
  bif (decide (v.1.2 < v.1.1)) then
    (idx v.1.2 (v.2.1).length).bind fun (x1012 : Nat) =>
    ((v.2.1)[x1012]?).bind fun (x1013 : Int × Int) =>
    (chk (decide (((v.2.2.2).length + (([x1013.1] : List Int)).length) * 8 ≤ 140737488355328))).bind fun _ =>
    let x1014 : List Int := (v.2.2.2 ++ ([x1013.1] : List Int))
    (chk (decide (((v.2.2.1).length + (([x1013.2] : List Int)).length) * 8 ≤ 140737488355328))).bind fun _ =>
    let x1015 : List Int := (v.2.2.1 ++ ([x1013.2] : List Int))
    let x1016 : Int := (IntKind.wrap .i64 (v.1.2 + (1 : Int)))
    K.2 ((v.1.1, x1016), (v.2.1, (x1015, x1014)))
  else
    some (v.2.2)

def E29_0 (K : ((((List (List (Int × Int × Int × Int))) × Int × Int) × (List (Int × Int)) × Int × Int × Int × Int) → Option (List Int × List Int)) × (((Int × Int) × (List (Int × Int)) × List Int × List Int) → Option (List Int × List Int))) (v : (Int × Int × Int × Int) × List (List (Int × Int × Int × Int))) : Option (List Int × List Int) :=
  K.1 ((v.2, (((v.2).length : Int), (0 : Int))), (([] : List (Int × Int)), v.1))

def K29_0 : Nat → ((((List (List (Int × Int × Int × Int))) × Int × Int) × (List (Int × Int)) × Int × Int × Int × Int) → Option (List Int × List Int)) × (((Int × Int) × (List (Int × Int)) × List Int × List Int) → Option (List Int × List Int))
  | 0 => (fun _ => none, fun _ => none)
  | n + 1 => (B29_0_3 (K29_0 n), B29_0_13 (K29_0 n))
def fuel29_0 (v : (Int × Int × Int × Int) × List (List (Int × Int × Int × Int))) : Nat := 1000
def F29_0 (v : (Int × Int × Int × Int) × List (List (Int × Int × Int × Int))) : Option (List Int × List Int) := E29_0 (K29_0 (fuel29_0 v)) v
noncomputable def k29_0 : List (Known Try.prog E) := [Known.of envOk [9, 7] [(.agg [.keep, .keep, .keep, .keep]), (.ros 43)] v41_0 F41_0 w41_0 ok41_0, Known.of envOk [7, 143] [(.own 0 87), (.fn (.func 43) [] [])] v42_0 F42_0 w42_0 ok42_0]
def s29_0_13 : List (Nat × Pat) := [(11, (.own 0 3)), (12, (.own 1 22)), (38, (.own 2 87)), (39, .keep), (40, .keep)]
def s29_0_3 : List (Nat × Pat) := [(2, (.ptr 0 0 24 [.keep, .keep, .keep, .keep])), (6, (.own 1 87)), (15, (.ros 25)), (16, .keep), (17, .keep)]
noncomputable def L29_0 (n id : Nat) (st : St G) : Option (List Int × List Int) := match Nat.beq id 3 with | true => cutK Try.prog s29_0_3 [] c29_0_3.dec (K29_0 n).1 st | false => match Nat.beq id 13 with | true => cutK Try.prog s29_0_13 [] c29_0_13.dec (K29_0 n).2 st | false => none
set_option maxRecDepth 100000 in
theorem e29_0 (n : Nat) (v : (Int × Int × Int × Int) × List (List (Int × Int × Int × Int))) : ev Try.prog E (oracle k29_0) Try.f29.ntmps (fun x => mem x [3, 13]) (L29_0 n) (finF Try.prog E Try.f29.results.toList [[]] w29_0.alts) 4000 [.code (Try.f29.body.getD .skip)] (argSt (v29_0.enc v)) = E29_0 (K29_0 n) v := by kernel_rfl
set_option maxRecDepth 100000 in
theorem b29_0_3 (n : Nat) (v : ((List (List (Int × Int × Int × Int))) × Int × Int) × (List (Int × Int)) × Int × Int × Int × Int) : evCut Try.prog E (oracle k29_0) false 29 Try.f29.ntmps (fun x => mem x [3, 13]) (L29_0 n) (finF Try.prog E Try.f29.results.toList [[]] w29_0.alts) 4000 (todoAt (Try.f29.body.getD .skip) 3) (cutSt s29_0_3 (c29_0_3.enc v)) = B29_0_3 (K29_0 n) v := by kernel_rfl
set_option maxRecDepth 100000 in
theorem b29_0_13 (n : Nat) (v : (Int × Int) × (List (Int × Int)) × List Int × List Int) : evCut Try.prog E (oracle k29_0) false 29 Try.f29.ntmps (fun x => mem x [3, 13]) (L29_0 n) (finF Try.prog E Try.f29.results.toList [[]] w29_0.alts) 4000 (todoAt (Try.f29.body.getD .skip) 13) (cutSt s29_0_13 (c29_0_13.enc v)) = B29_0_13 (K29_0 n) v := by kernel_rfl
theorem ok29_0 : FnOk Try.prog E 29 v29_0.enc F29_0 w29_0.enc :=
  fn_known (fn := Try.f29) (c := (Try.f29.body.getD .skip)) Try.func29 (by kernel_rfl) rfl envOk (oracle_ok k29_0) mixed v29_0 F29_0 w29_0 [] [[]] (by kernel_rfl) [3, 13] 4000 L29_0 (by kernel_rfl)
    (List.forall_mem_cons.2 ⟨⟨_, [], s29_0_3, c29_0_3.dec, c29_0_3.enc, fun n => (K29_0 n).1, c29_0_3.ok, fun _ _ => rfl, fun _ => rfl, by kernel_rfl, fun n v _ h => (b29_0_3 n v).trans h⟩, List.forall_mem_cons.2 ⟨⟨_, [], s29_0_13, c29_0_13.dec, c29_0_13.enc, fun n => (K29_0 n).2, c29_0_13.ok, fun _ _ => rfl, fun _ => rfl, by kernel_rfl, fun n v _ h => (b29_0_13 n v).trans h⟩, fun _ h => (nomatch h)⟩⟩) (fun v _ h => ⟨fuel29_0 v, (e29_0 _ v).trans h⟩) (fun _ => by kernel_rfl) (fun _ => by kernel_rfl) (fun _ _ => by kernel_rfl)
/- chicane/chicanelaw44.awake -/
abbrev A15_0 : Type := Unit
abbrev R15_0 : Type := Bool
def v15_0 : Pk G Unit := (Pk.snd (pk Sh.nil Sh.hnil))
def w15_0 : Wk G Bool := (Wk.one [.keep] (Pk.fst (pk (Sh.fst (Sh.cons Sh.bool Sh.nil)) Sh.hnil)))
def F15_0 (v : Unit) : Option Bool :=
  (F10_0 (((5 : Int), ((0 : Int), ((0 : Int), (2 : Int)))), ([((4 : Int), ((0 : Int), ((1 : Int), (0 : Int)))), ((5 : Int), ((0 : Int), ((1 : Int), (0 : Int)))), ((4 : Int), ((0 : Int), ((9 : Int), (0 : Int)))), ((4 : Int), ((0 : Int), ((12 : Int), (0 : Int))))] : List (Int × Int × Int × Int)))).bind fun r1034 =>
  (F10_0 (((-1 : Int), ((0 : Int), ((0 : Int), (0 : Int)))), ([] : List (Int × Int × Int × Int)))).bind fun r1035 =>
  bif (((r1034.2).length : Int) == (2 : Int)) then
    bif r1034.1.1 then
      bif (r1034.1.2 == (0 : Int)) then
        (F13_0 r1034.2).bind fun r1036 =>
        bif (r1036 == (10 : Int)) then
          some (r1035.1.2 == (40 : Int))
        else
          some (false)
      else
        some (false)
    else
      some (false)
  else
    some (false)

noncomputable def k15_0 : List (Known Try.prog E) := [Known.of envOk [9, 7] [(.agg [.keep, .keep, .keep, .keep]), (.ros 43)] v10_0 F10_0 w10_0 ok10_0, Known.of envOk [7] [(.ros 38)] v13_0 F13_0 w13_0 ok13_0]
noncomputable def L15_0 (n id : Nat) (st : St G) : Option Bool := none
set_option maxRecDepth 100000 in
theorem e15_0 (n : Nat) (v : Unit) : ev Try.prog E (oracle k15_0) Try.f15.ntmps (fun x => mem x []) (L15_0 n) (finF Try.prog E Try.f15.results.toList [[]] w15_0.alts) 4000 [.code (Try.f15.body.getD .skip)] (argSt (v15_0.enc v)) = F15_0 v := by kernel_rfl
theorem ok15_0 : FnOk Try.prog E 15 v15_0.enc F15_0 w15_0.enc :=
  fn_known (fn := Try.f15) (c := (Try.f15.body.getD .skip)) Try.func15 (by kernel_rfl) rfl envOk (oracle_ok k15_0) mixed v15_0 F15_0 w15_0 [] [[]] (by kernel_rfl) [] 4000 L15_0 (by kernel_rfl)
    (fun _ h => nomatch h) (fun v _ h => ⟨0, (e15_0 _ v).trans h⟩) (fun _ => by kernel_rfl) (fun _ => by kernel_rfl) (fun _ _ => by kernel_rfl)
/- chicane/chicanelaw44.StewardOrder -/
abbrev A9_0 : Type := (Int × Int × Int × Int) × List (List (Int × Int × Int × Int))
abbrev R9_0 : Type := Bool
def v9_0 : Pk G ((Int × Int × Int × Int) × List (List (Int × Int × Int × Int))) := (Pk.fst (pk (Sh.cons (Sh.agg (Sh.cons (Sh.int .i64) (Sh.cons (Sh.int .i64) (Sh.cons (Sh.int .i64) (Sh.fst (Sh.cons (Sh.int .i64) Sh.nil)))))) (Sh.fst (Sh.cons (Sh.ros 25) Sh.nil))) Sh.hnil))
def w9_0 : Wk G Bool := (Wk.one [.keep] (Pk.fst (pk (Sh.fst (Sh.cons Sh.bool Sh.nil)) Sh.hnil)))
def c9_0_7 : Pk G (((List (List (Int × Int × Int × Int))) × Int) × List Int × List Int) := (pk (Sh.cons (Sh.ros 25) (Sh.snd (Sh.cons (Sh.osl 0) (Sh.snd (Sh.cons (Sh.osl 1) (Sh.fst (Sh.cons (Sh.int .i64) Sh.nil))))))) (Sh.hrow 1 22 (Sh.fst (Sh.hrow 0 3 Sh.hnil))))
def c9_0_13 : Pk G (((List (List (Int × Int × Int × Int))) × Int × Bool × Int) × List Int × List Int) := (pk (Sh.cons (Sh.ros 25) (Sh.snd (Sh.cons (Sh.osl 0) (Sh.snd (Sh.cons (Sh.osl 1) (Sh.cons (Sh.int .i64) (Sh.cons Sh.bool (Sh.fst (Sh.cons (Sh.int .i64) Sh.nil))))))))) (Sh.hrow 1 22 (Sh.fst (Sh.hrow 0 3 Sh.hnil))))
def c9_0_17 : Pk G (((List (List (Int × Int × Int × Int))) × Int × Bool × Int) × List Int × List Int) := (pk (Sh.cons (Sh.ros 25) (Sh.snd (Sh.cons (Sh.osl 0) (Sh.snd (Sh.cons (Sh.osl 1) (Sh.cons (Sh.int .i64) (Sh.cons Sh.bool (Sh.fst (Sh.cons (Sh.int .i64) Sh.nil))))))))) (Sh.hrow 1 22 (Sh.fst (Sh.hrow 0 3 Sh.hnil))))
def B9_0_7 (K : ((((List (List (Int × Int × Int × Int))) × Int) × List Int × List Int) → Option Bool) × ((((List (List (Int × Int × Int × Int))) × Int × Bool × Int) × List Int × List Int) → Option Bool) × ((((List (List (Int × Int × Int × Int))) × Int × Bool × Int) × List Int × List Int) → Option Bool)) (v : ((List (List (Int × Int × Int × Int))) × Int) × List Int × List Int) : Option Bool :=
  bif (decide (v.1.2 < ((v.2.2).length : Int))) then
    (idx v.1.2 (v.2.2).length).bind fun (x1147 : Nat) =>
    ((v.2.2)[x1147]?).bind fun (x1148 : Int) =>
    bif (decide (x1148 < (0 : Int))) then
      some (false)
    else
      (idx v.1.2 (v.2.2).length).bind fun (x1149 : Nat) =>
      ((v.2.2)[x1149]?).bind fun (x1150 : Int) =>
      bif (decide (x1150 ≥ ((v.1.1).length : Int))) then
        some (false)
      else
        bif (decide (v.1.2 > (0 : Int))) then
          (idx v.1.2 (v.2.1).length).bind fun (x1151 : Nat) =>
          ((v.2.1)[x1151]?).bind fun (x1152 : Int) =>
          let x1153 : Int := (IntKind.wrap .i64 (v.1.2 - (1 : Int)))
          (idx x1153 (v.2.1).length).bind fun (x1154 : Nat) =>
          ((v.2.1)[x1154]?).bind fun (x1155 : Int) =>
          bif (decide (x1152 < x1155)) then
            some (false)
          else
            K.2.1 ((v.1.1, (v.1.2, (false, (0 : Int)))), v.2)
        else
          K.2.1 ((v.1.1, (v.1.2, (false, (0 : Int)))), v.2)
  else
    (F15_0 ()).bind fun r1156 =>
    some (r1156)

def B9_0_13 (K : ((((List (List (Int × Int × Int × Int))) × Int) × List Int × List Int) → Option Bool) × ((((List (List (Int × Int × Int × Int))) × Int × Bool × Int) × List Int × List Int) → Option Bool) × ((((List (List (Int × Int × Int × Int))) × Int × Bool × Int) × List Int × List Int) → Option Bool)) (v : ((List (List (Int × Int × Int × Int))) × Int × Bool × Int) × List Int × List Int) : Option Bool :=
  (idx v.1.2.1 (v.2.2).length).bind fun (x1157 : Nat) =>
  ((v.2.2)[x1157]?).bind fun (x1158 : Int) =>
  (rdx v.1.1 x1158).bind fun (x1159 : List (Int × Int × Int × Int)) =>
  bif (decide (v.1.2.2.2 < ((x1159).length : Int))) then
    bif v.1.2.2.1 then
      let x1160 : Int := (IntKind.wrap .i64 (v.1.2.2.2 + (1 : Int)))
      K.2.1 ((v.1.1, (v.1.2.1, (true, x1160))), v.2)
    else
      (idx v.1.2.1 (v.2.2).length).bind fun (x1161 : Nat) =>
      ((v.2.2)[x1161]?).bind fun (x1162 : Int) =>
      (rdx v.1.1 x1162).bind fun (x1163 : List (Int × Int × Int × Int)) =>
      (rdx x1163 v.1.2.2.2).bind fun (x1164 : Int × Int × Int × Int) =>
      let x1165 : Int := (IntKind.wrap .i64 (v.1.2.2.2 + (1 : Int)))
      K.2.1 ((v.1.1, (v.1.2.1, ((x1164.1 == (6 : Int)), x1165))), v.2)
  else
    K.2.2 ((v.1.1, (v.1.2.1, (v.1.2.2.1, (0 : Int)))), v.2)

def B9_0_17 (K : ((((List (List (Int × Int × Int × Int))) × Int) × List Int × List Int) → Option Bool) × ((((List (List (Int × Int × Int × Int))) × Int × Bool × Int) × List Int × List Int) → Option Bool) × ((((List (List (Int × Int × Int × Int))) × Int × Bool × Int) × List Int × List Int) → Option Bool)) (v : ((List (List (Int × Int × Int × Int))) × Int × Bool × Int) × List Int × List Int) : Option Bool :=
  bif (decide (v.1.2.2.2 < v.1.2.1)) then
    (idx v.1.2.2.2 (v.2.2).length).bind fun (x1166 : Nat) =>
    ((v.2.2)[x1166]?).bind fun (x1167 : Int) =>
    (idx v.1.2.1 (v.2.2).length).bind fun (x1168 : Nat) =>
    ((v.2.2)[x1168]?).bind fun (x1169 : Int) =>
    bif (x1167 == x1169) then
      some (false)
    else
      let x1170 : Int := (IntKind.wrap .i64 (v.1.2.2.2 + (1 : Int)))
      K.2.2 ((v.1.1, (v.1.2.1, (v.1.2.2.1, x1170))), v.2)
  else
    bif (!v.1.2.2.1) then
      some (false)
    else
      let x1171 : Int := (IntKind.wrap .i64 (v.1.2.1 + (1 : Int)))
      K.1 ((v.1.1, x1171), v.2)

def E9_0 (K : ((((List (List (Int × Int × Int × Int))) × Int) × List Int × List Int) → Option Bool) × ((((List (List (Int × Int × Int × Int))) × Int × Bool × Int) × List Int × List Int) → Option Bool) × ((((List (List (Int × Int × Int × Int))) × Int × Bool × Int) × List Int × List Int) → Option Bool)) (v : (Int × Int × Int × Int) × List (List (Int × Int × Int × Int))) : Option Bool :=
  (F28_0 v.2).bind fun r1145 =>
  bif (!r1145) then
    some (true)
  else
    (F29_0 v).bind fun r1146 =>
    bif (((r1146.2).length : Int) != ((r1146.1).length : Int)) then
      some (false)
    else
      K.1 ((v.2, (0 : Int)), r1146)

def K9_0 : Nat → ((((List (List (Int × Int × Int × Int))) × Int) × List Int × List Int) → Option Bool) × ((((List (List (Int × Int × Int × Int))) × Int × Bool × Int) × List Int × List Int) → Option Bool) × ((((List (List (Int × Int × Int × Int))) × Int × Bool × Int) × List Int × List Int) → Option Bool)
  | 0 => (fun _ => none, fun _ => none, fun _ => none)
  | n + 1 => (B9_0_7 (K9_0 n), B9_0_13 (K9_0 n), B9_0_17 (K9_0 n))
def fuel9_0 (v : (Int × Int × Int × Int) × List (List (Int × Int × Int × Int))) : Nat := 20000
def F9_0 (v : (Int × Int × Int × Int) × List (List (Int × Int × Int × Int))) : Option Bool := E9_0 (K9_0 (fuel9_0 v)) v
noncomputable def k9_0 : List (Known Try.prog E) := [Known.of envOk [7] [(.ros 25)] v28_0 F28_0 w28_0 ok28_0, Known.of envOk [9, 7] [(.agg [.keep, .keep, .keep, .keep]), (.ros 25)] v29_0 F29_0 w29_0 ok29_0, Known.of envOk [] [] v15_0 F15_0 w15_0 ok15_0]
def s9_0_17 : List (Nat × Pat) := [(1, (.ros 25)), (5, (.own 0 3)), (6, (.own 1 22)), (7, .keep), (8, .keep), (10, .keep)]
def s9_0_13 : List (Nat × Pat) := [(1, (.ros 25)), (5, (.own 0 3)), (6, (.own 1 22)), (7, .keep), (8, .keep), (9, .keep)]
def s9_0_7 : List (Nat × Pat) := [(1, (.ros 25)), (5, (.own 0 3)), (6, (.own 1 22)), (7, .keep)]
noncomputable def L9_0 (n id : Nat) (st : St G) : Option Bool := match Nat.beq id 7 with | true => cutK Try.prog s9_0_7 [] c9_0_7.dec (K9_0 n).1 st | false => match Nat.beq id 13 with | true => cutK Try.prog s9_0_13 [] c9_0_13.dec (K9_0 n).2.1 st | false => match Nat.beq id 17 with | true => cutK Try.prog s9_0_17 [] c9_0_17.dec (K9_0 n).2.2 st | false => none
set_option maxRecDepth 100000 in
theorem e9_0 (n : Nat) (v : (Int × Int × Int × Int) × List (List (Int × Int × Int × Int))) : ev Try.prog E (oracle k9_0) Try.f9.ntmps (fun x => mem x [7, 13, 17]) (L9_0 n) (finF Try.prog E Try.f9.results.toList [[]] w9_0.alts) 4000 [.code (Try.f9.body.getD .skip)] (argSt (v9_0.enc v)) = E9_0 (K9_0 n) v := by kernel_rfl
set_option maxRecDepth 100000 in
theorem b9_0_7 (n : Nat) (v : ((List (List (Int × Int × Int × Int))) × Int) × List Int × List Int) : evCut Try.prog E (oracle k9_0) false 9 Try.f9.ntmps (fun x => mem x [7, 13, 17]) (L9_0 n) (finF Try.prog E Try.f9.results.toList [[]] w9_0.alts) 4000 (todoAt (Try.f9.body.getD .skip) 7) (cutSt s9_0_7 (c9_0_7.enc v)) = B9_0_7 (K9_0 n) v := by kernel_rfl
set_option maxRecDepth 100000 in
theorem b9_0_13 (n : Nat) (v : ((List (List (Int × Int × Int × Int))) × Int × Bool × Int) × List Int × List Int) : evCut Try.prog E (oracle k9_0) false 9 Try.f9.ntmps (fun x => mem x [7, 13, 17]) (L9_0 n) (finF Try.prog E Try.f9.results.toList [[]] w9_0.alts) 4000 (todoAt (Try.f9.body.getD .skip) 13) (cutSt s9_0_13 (c9_0_13.enc v)) = B9_0_13 (K9_0 n) v := by kernel_rfl
set_option maxRecDepth 100000 in
theorem b9_0_17 (n : Nat) (v : ((List (List (Int × Int × Int × Int))) × Int × Bool × Int) × List Int × List Int) : evCut Try.prog E (oracle k9_0) false 9 Try.f9.ntmps (fun x => mem x [7, 13, 17]) (L9_0 n) (finF Try.prog E Try.f9.results.toList [[]] w9_0.alts) 4000 (todoAt (Try.f9.body.getD .skip) 17) (cutSt s9_0_17 (c9_0_17.enc v)) = B9_0_17 (K9_0 n) v := by kernel_rfl
theorem ok9_0 : FnOk Try.prog E 9 v9_0.enc F9_0 w9_0.enc :=
  fn_known (fn := Try.f9) (c := (Try.f9.body.getD .skip)) Try.func9 (by kernel_rfl) rfl envOk (oracle_ok k9_0) mixed v9_0 F9_0 w9_0 [] [[]] (by kernel_rfl) [7, 13, 17] 4000 L9_0 (by kernel_rfl)
    (List.forall_mem_cons.2 ⟨⟨_, [], s9_0_7, c9_0_7.dec, c9_0_7.enc, fun n => (K9_0 n).1, c9_0_7.ok, fun _ _ => rfl, fun _ => rfl, by kernel_rfl, fun n v _ h => (b9_0_7 n v).trans h⟩, List.forall_mem_cons.2 ⟨⟨_, [], s9_0_13, c9_0_13.dec, c9_0_13.enc, fun n => (K9_0 n).2.1, c9_0_13.ok, fun _ _ => rfl, fun _ => rfl, by kernel_rfl, fun n v _ h => (b9_0_13 n v).trans h⟩, List.forall_mem_cons.2 ⟨⟨_, [], s9_0_17, c9_0_17.dec, c9_0_17.enc, fun n => (K9_0 n).2.2, c9_0_17.ok, fun _ _ => rfl, fun _ => rfl, by kernel_rfl, fun n v _ h => (b9_0_17 n v).trans h⟩, fun _ h => (nomatch h)⟩⟩⟩) (fun v _ h => ⟨fuel9_0 v, (e9_0 _ v).trans h⟩) (fun _ => by kernel_rfl) (fun _ => by kernel_rfl) (fun _ _ => by kernel_rfl)
def Dom9_0 (v : (Int × Int × Int × Int) × List (List (Int × Int × Int × Int))) : Prop := ((Lit.int .i64 v.1.1).wf = true ∧ (Lit.int .i64 v.1.2.1).wf = true ∧ (Lit.int .i64 v.1.2.2.1).wf = true ∧ (Lit.int .i64 v.1.2.2.2).wf = true) ∧ (((v.2).length ≤ maxLen ∧ ∀ x ∈ v.2, (((x).length ≤ maxLen ∧ ∀ y ∈ x, (Lit.int .i64 y.1).wf = true ∧ (Lit.int .i64 y.2.1).wf = true ∧ (Lit.int .i64 y.2.2.1).wf = true ∧ (Lit.int .i64 y.2.2.2).wf = true))))
end Go.Proofs.Ythlnocpbdhcnlaa.Ev
