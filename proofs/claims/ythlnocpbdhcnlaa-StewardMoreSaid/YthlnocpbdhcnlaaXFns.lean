import Derived.Test.YthlnocpbdhcnlaaXEnv
set_option linter.unusedVariables false
namespace Go.Proofs.Ythlnocpbdhcnlaa.Ev
open Go Go.RowKit
/- (chicane/steward.Rules).may -/
abbrev A30_0 : Type := Int × Int × Int × Int
abbrev R30_0 : Type := Bool
def v30_0 : Pk G (Int × Int × Int × Int) := (Pk.fst (pk (Sh.fst (Sh.cons (Sh.agg (Sh.cons (Sh.int .i64) (Sh.cons (Sh.int .i64) (Sh.cons (Sh.int .i64) (Sh.fst (Sh.cons (Sh.int .i64) Sh.nil)))))) Sh.nil)) Sh.hnil))
def w30_0 : Wk G Bool := (Wk.one [.keep] (Pk.fst (pk (Sh.fst (Sh.cons Sh.bool Sh.nil)) Sh.hnil)))
def F30_0 (v : Int × Int × Int × Int) : Option Bool :=
  let x9 : Int := (if v.2.1 < v.1 then v.2.1 else v.1)
  bif (decide (x9 ≥ (0 : Int))) then
    let x10 : Int := (if v.2.1 > v.1 then v.2.1 else v.1)
    bif (decide (x10 ≤ (1125899906842624 : Int))) then
      let x11 : Int := (if v.2.2.2 < v.2.2.1 then v.2.2.2 else v.2.2.1)
      bif (decide (x11 ≥ (0 : Int))) then
        let x12 : Int := (if v.2.2.2 > v.2.2.1 then v.2.2.2 else v.2.2.1)
        some (decide (x12 ≤ (1000 : Int)))
      else
        some (false)
    else
      some (false)
  else
    some (false)

noncomputable def k30_0 : List (Known Try.prog E) := []
noncomputable def L30_0 (n id : Nat) (st : St G) : Option Bool := none
set_option maxRecDepth 100000 in
theorem e30_0 (n : Nat) (v : Int × Int × Int × Int) : ev Try.prog E (oracle k30_0) Try.f30.ntmps (fun x => mem x []) (L30_0 n) (finF Try.prog E Try.f30.results.toList [[]] w30_0.alts) 4000 [.code (Try.f30.body.getD .skip)] (argSt (v30_0.enc v)) = F30_0 v := by kernel_rfl
theorem ok30_0 : FnOk Try.prog E 30 v30_0.enc F30_0 w30_0.enc :=
  fn_known (fn := Try.f30) (c := (Try.f30.body.getD .skip)) Try.func30 (by kernel_rfl) rfl envOk (oracle_ok k30_0) mixed v30_0 F30_0 w30_0 [] [[]] (by kernel_rfl) [] 4000 L30_0 (by kernel_rfl)
    (fun _ h => nomatch h) (fun v _ h => ⟨0, (e30_0 _ v).trans h⟩) (fun _ => by kernel_rfl) (fun _ => by kernel_rfl) (fun _ _ => by kernel_rfl)
/- (chicane/steward.Rules).given -/
abbrev A31_0 : Type := (Int × Int × Int × Int) × List (Int × Int × Int × Int)
abbrev R31_0 : Type := (List (Int × Int × Int × Int)) × Int × Int × Int × Int
def v31_0 : Pk G ((Int × Int × Int × Int) × List (Int × Int × Int × Int)) := (Pk.fst (pk (Sh.cons (Sh.agg (Sh.cons (Sh.int .i64) (Sh.cons (Sh.int .i64) (Sh.cons (Sh.int .i64) (Sh.fst (Sh.cons (Sh.int .i64) Sh.nil)))))) (Sh.fst (Sh.cons (Sh.ros 43) Sh.nil))) Sh.hnil))
def w31_0 : Wk G ((List (Int × Int × Int × Int)) × Int × Int × Int × Int) := (Wk.one [(.fn (.func 44) [] [(.ptr 0 0 24 [.keep, .keep, .keep, .keep]), (.ptr 1 0 25 [(.ros 43)])])] (Pk.snd (pk (Sh.snd (Sh.cons (Sh.snd (Sh.fn (.func 44) Sh.nil (Sh.snd (Sh.cons (Sh.ptr 0 0) (Sh.snd (Sh.cons (Sh.ptr 1 0) Sh.nil)))))) Sh.nil)) (Sh.hfix 1 25 (Sh.fst (Sh.cons (Sh.ros 43) Sh.nil)) (Sh.fst (Sh.hfix 0 24 (Sh.cons (Sh.int .i64) (Sh.cons (Sh.int .i64) (Sh.cons (Sh.int .i64) (Sh.fst (Sh.cons (Sh.int .i64) Sh.nil))))) Sh.hnil))))))
def F31_0 (v : (Int × Int × Int × Int) × List (Int × Int × Int × Int)) : Option ((List (Int × Int × Int × Int)) × Int × Int × Int × Int) :=
  some (v.2, v.1)

noncomputable def k31_0 : List (Known Try.prog E) := []
noncomputable def L31_0 (n id : Nat) (st : St G) : Option ((List (Int × Int × Int × Int)) × Int × Int × Int × Int) := none
set_option maxRecDepth 100000 in
theorem e31_0 (n : Nat) (v : (Int × Int × Int × Int) × List (Int × Int × Int × Int)) : ev Try.prog E (oracle k31_0) Try.f31.ntmps (fun x => mem x []) (L31_0 n) (finF Try.prog E Try.f31.results.toList [[]] w31_0.alts) 4000 [.code (Try.f31.body.getD .skip)] (argSt (v31_0.enc v)) = F31_0 v := by kernel_rfl
theorem ok31_0 : FnOk Try.prog E 31 v31_0.enc F31_0 w31_0.enc :=
  fn_known (fn := Try.f31) (c := (Try.f31.body.getD .skip)) Try.func31 (by kernel_rfl) rfl envOk (oracle_ok k31_0) mixed v31_0 F31_0 w31_0 [] [[]] (by kernel_rfl) [] 4000 L31_0 (by kernel_rfl)
    (fun _ h => nomatch h) (fun v _ h => ⟨0, (e31_0 _ v).trans h⟩) (fun _ => by kernel_rfl) (fun _ => by kernel_rfl) (fun _ _ => by kernel_rfl)
/- chicane/steward.Judge#round -/
abbrev A10246_y0 : Type := (Int × Int × Bool) × (List (Int × Int × Bool)) × Int × Bool × (List (Int × Int × Bool)) × Int × Int × Int × Int
abbrev R10246_y0 : Type := (Bool × Int × Bool × (List (Int × Int × Bool)) × (Int × Int × Int × Int) × List (Int × Int × Bool)) ⊕ (Bool × (List (Int × Int × Bool)) × Int × Bool × (Int × Int × Int × Int) × List (Int × Int × Bool))
def v10246_y0 : Pk G ((Int × Int × Bool) × (List (Int × Int × Bool)) × Int × Bool × (List (Int × Int × Bool)) × Int × Int × Int × Int) := (pk (Sh.snd (Sh.cons (Sh.yld 0) (Sh.fst (Sh.cons (Sh.agg (Sh.cons (Sh.int .i64) (Sh.cons (Sh.int .i64) (Sh.fst (Sh.cons Sh.bool Sh.nil))))) Sh.nil)))) (Sh.snd (Sh.hlp 0 10246 .ready (Sh.snd (Sh.cons Sh.any (Sh.snd (Sh.cons Sh.any (Sh.snd (Sh.cons (Sh.ptr 1 0) (Sh.snd (Sh.cons Sh.any (Sh.snd (Sh.cons (Sh.ptr 2 0) (Sh.snd (Sh.cons (Sh.ptr 4 0) (Sh.snd (Sh.cons (Sh.ptr 5 0) (Sh.snd (Sh.cons (Sh.ptr 6 0) (Sh.snd (Sh.cons Sh.any (Sh.snd (Sh.cons Sh.any (Sh.snd (Sh.cons Sh.any (Sh.snd (Sh.cons Sh.any (Sh.snd (Sh.cons Sh.any (Sh.snd (Sh.cons Sh.any (Sh.snd (Sh.cons Sh.any (Sh.snd (Sh.cons Sh.any (Sh.snd (Sh.cons Sh.any (Sh.snd (Sh.cons Sh.any (Sh.snd (Sh.cons Sh.any (Sh.snd (Sh.cons Sh.any (Sh.snd (Sh.cons Sh.any (Sh.snd (Sh.cons Sh.any (Sh.snd (Sh.cons Sh.any (Sh.snd (Sh.cons Sh.any (Sh.snd (Sh.cons Sh.any (Sh.snd (Sh.cons Sh.any (Sh.snd (Sh.cons Sh.any Sh.nil)))))))))))))))))))))))))))))))))))))))))))))))))))))) (Sh.snd (Sh.hfix 6 26 (Sh.snd (Sh.cons (Sh.osl 7) Sh.nil)) (Sh.hrow 7 38 (Sh.hfix 5 27 (Sh.fst (Sh.cons (Sh.int .i64) Sh.nil)) (Sh.hfix 4 4 (Sh.fst (Sh.cons Sh.bool Sh.nil)) (Sh.snd (Sh.hfix 2 26 (Sh.snd (Sh.cons (Sh.osl 3) Sh.nil)) (Sh.hrow 3 38 (Sh.fst (Sh.hfix 1 24 (Sh.cons (Sh.int .i64) (Sh.cons (Sh.int .i64) (Sh.cons (Sh.int .i64) (Sh.fst (Sh.cons (Sh.int .i64) Sh.nil))))) Sh.hnil)))))))))))))
def w10246_y0 : Wk G ((Bool × Int × Bool × (List (Int × Int × Bool)) × (Int × Int × Int × Int) × List (Int × Int × Bool)) ⊕ (Bool × (List (Int × Int × Bool)) × Int × Bool × (Int × Int × Int × Int) × List (Int × Int × Bool))) := (Wk.alt (Wk.one [.keep] (pk (Sh.fst (Sh.cons Sh.bool Sh.nil)) (Sh.snd (Sh.hlp 0 10246 (.done .ret) (Sh.snd (Sh.cons Sh.any (Sh.snd (Sh.cons Sh.any (Sh.snd (Sh.cons (Sh.ptr 1 0) (Sh.snd (Sh.cons Sh.any (Sh.snd (Sh.cons (Sh.ptr 2 0) (Sh.snd (Sh.cons (Sh.ptr 4 0) (Sh.snd (Sh.cons (Sh.ptr 5 0) (Sh.snd (Sh.cons (Sh.ptr 6 0) (Sh.snd (Sh.cons Sh.any (Sh.snd (Sh.cons Sh.any (Sh.snd (Sh.cons Sh.any (Sh.snd (Sh.cons Sh.any (Sh.snd (Sh.cons Sh.any (Sh.snd (Sh.cons Sh.any (Sh.snd (Sh.cons Sh.any (Sh.snd (Sh.cons Sh.any (Sh.snd (Sh.cons Sh.any (Sh.snd (Sh.cons Sh.any (Sh.snd (Sh.cons Sh.any (Sh.snd (Sh.cons Sh.any (Sh.snd (Sh.cons Sh.any (Sh.snd (Sh.cons Sh.any (Sh.snd (Sh.cons Sh.any (Sh.snd (Sh.cons Sh.any (Sh.snd (Sh.cons Sh.any (Sh.snd (Sh.cons Sh.any (Sh.snd (Sh.cons Sh.any Sh.nil)))))))))))))))))))))))))))))))))))))))))))))))))))))) (Sh.snd (Sh.hfix 6 26 (Sh.snd (Sh.cons (Sh.osl 8) Sh.nil)) (Sh.hfix 5 27 (Sh.fst (Sh.cons (Sh.int .i64) Sh.nil)) (Sh.hfix 4 4 (Sh.fst (Sh.cons Sh.bool Sh.nil)) (Sh.snd (Sh.hfix 2 26 (Sh.snd (Sh.cons (Sh.osl 8) Sh.nil)) (Sh.hrow 8 38 (Sh.hfix 1 24 (Sh.cons (Sh.int .i64) (Sh.cons (Sh.int .i64) (Sh.cons (Sh.int .i64) (Sh.fst (Sh.cons (Sh.int .i64) Sh.nil))))) (Sh.fst (Sh.hrow 3 38 Sh.hnil)))))))))))))) (Wk.one [.keep] (pk (Sh.fst (Sh.cons Sh.bool Sh.nil)) (Sh.snd (Sh.hlp 0 10246 .ready (Sh.snd (Sh.cons Sh.any (Sh.snd (Sh.cons Sh.any (Sh.snd (Sh.cons (Sh.ptr 1 0) (Sh.snd (Sh.cons Sh.any (Sh.snd (Sh.cons (Sh.ptr 2 0) (Sh.snd (Sh.cons (Sh.ptr 4 0) (Sh.snd (Sh.cons (Sh.ptr 5 0) (Sh.snd (Sh.cons (Sh.ptr 6 0) (Sh.snd (Sh.cons Sh.any (Sh.snd (Sh.cons Sh.any (Sh.snd (Sh.cons Sh.any (Sh.snd (Sh.cons Sh.any (Sh.snd (Sh.cons Sh.any (Sh.snd (Sh.cons Sh.any (Sh.snd (Sh.cons Sh.any (Sh.snd (Sh.cons Sh.any (Sh.snd (Sh.cons Sh.any (Sh.snd (Sh.cons Sh.any (Sh.snd (Sh.cons Sh.any (Sh.snd (Sh.cons Sh.any (Sh.snd (Sh.cons Sh.any (Sh.snd (Sh.cons Sh.any (Sh.snd (Sh.cons Sh.any (Sh.snd (Sh.cons Sh.any (Sh.snd (Sh.cons Sh.any (Sh.snd (Sh.cons Sh.any (Sh.snd (Sh.cons Sh.any Sh.nil)))))))))))))))))))))))))))))))))))))))))))))))))))))) (Sh.snd (Sh.hfix 6 26 (Sh.snd (Sh.cons (Sh.osl 8) Sh.nil)) (Sh.hrow 8 38 (Sh.hfix 5 27 (Sh.fst (Sh.cons (Sh.int .i64) Sh.nil)) (Sh.hfix 4 4 (Sh.fst (Sh.cons Sh.bool Sh.nil)) (Sh.snd (Sh.hfix 2 26 (Sh.snd (Sh.cons (Sh.osl 3) Sh.nil)) (Sh.hfix 1 24 (Sh.cons (Sh.int .i64) (Sh.cons (Sh.int .i64) (Sh.cons (Sh.int .i64) (Sh.fst (Sh.cons (Sh.int .i64) Sh.nil))))) (Sh.fst (Sh.hrow 3 38 Sh.hnil)))))))))))))))
def F10246_y0 (v : (Int × Int × Bool) × (List (Int × Int × Bool)) × Int × Bool × (List (Int × Int × Bool)) × Int × Int × Int × Int) : Option ((Bool × Int × Bool × (List (Int × Int × Bool)) × (Int × Int × Int × Int) × List (Int × Int × Bool)) ⊕ (Bool × (List (Int × Int × Bool)) × Int × Bool × (Int × Int × Int × Int) × List (Int × Int × Bool))) :=
  (chk (decide (((v.2.1).length + (([v.1] : List (Int × Int × Bool))).length) * 24 ≤ 140737488355328))).bind fun _ =>
  let x20 : List (Int × Int × Bool) := (v.2.1 ++ ([v.1] : List (Int × Int × Bool)))
  bif (((x20).length : Int) == v.2.2.2.2.2.2.2.2) then
    some (.inl (false, ((0 : Int), (true, (x20, (v.2.2.2.2.2, v.2.2.2.2.1))))))
  else
    some (.inr (true, (x20, (v.2.2.1, (v.2.2.2.1, (v.2.2.2.2.2, v.2.2.2.2.1))))))

noncomputable def k10246_y0 : List (Known Try.prog E) := []
noncomputable def sy10246_y0 : Array Tmp × Code × Code := match todoAt (Try.f10.body.getD .skip) 6 with | .code (.rangeFunc _ ps aa bb) :: _ => (ps, aa, bb) | _ => (#[], .skip, .skip)
noncomputable def L10246_y0 (n id : Nat) (st : St G) : Option ((Bool × Int × Bool × (List (Int × Int × Bool)) × (Int × Int × Int × Int) × List (Int × Int × Bool)) ⊕ (Bool × (List (Int × Int × Bool)) × Int × Bool × (Int × Int × Int × Int) × List (Int × Int × Bool))) := none
set_option maxRecDepth 100000 in
theorem e10246_y0 (n : Nat) (v : (Int × Int × Bool) × (List (Int × Int × Bool)) × Int × Bool × (List (Int × Int × Bool)) × Int × Int × Int × Int) : ev Try.prog E (oracle k10246_y0) 27 (fun x => mem x []) (L10246_y0 n) (finB Try.prog [[(.own 3 38), (.ptr 1 0 24 [.keep, .keep, .keep, .keep]), (.ptr 2 0 26 [(.own 8 38)]), (.ptr 4 0 4 [.keep]), (.ptr 5 0 27 [.keep]), (.ptr 6 0 26 [(.own 8 38)]), (.yld 0 10246 [.any, .any, (.ptr 1 0 24 []), .any, (.ptr 2 0 26 []), (.ptr 4 0 4 []), (.ptr 5 0 27 []), (.ptr 6 0 26 []), .any, .any, .any, .any, .any, .any, .any, .any, .any, .any, .any, .any, .any, .any, .any, .any, .any, .any, .any])], [(.own 3 38), (.ptr 1 0 24 [.keep, .keep, .keep, .keep]), (.ptr 2 0 26 [(.own 3 38)]), (.ptr 4 0 4 [.keep]), (.ptr 5 0 27 [.keep]), (.ptr 6 0 26 [(.own 8 38)]), (.yld 0 10246 [.any, .any, (.ptr 1 0 24 []), .any, (.ptr 2 0 26 []), (.ptr 4 0 4 []), (.ptr 5 0 27 []), (.ptr 6 0 26 []), .any, .any, .any, .any, .any, .any, .any, .any, .any, .any, .any, .any, .any, .any, .any, .any, .any, .any, .any])]] w10246_y0.alts) 4000 [.code sy10246_y0.2.1, .beginRound, .code sy10246_y0.2.2] (rndSt sy10246_y0.1.toList (v10246_y0.enc v)) = F10246_y0 v := by kernel_rfl
theorem ok10246_y0 : CalOk Try.prog E (.yl 10246) v10246_y0.enc F10246_y0 w10246_y0.enc :=
  round_known (key := 10246) (ps := sy10246_y0.1) (aa := sy10246_y0.2.1) (bb := sy10246_y0.2.2) (site_of (fn := Try.f10) (c := (Try.f10.body.getD .skip)) Try.func10 rfl (by kernel_rfl) (by kernel_rfl)) envOk (oracle_ok k10246_y0) mixed 27 v10246_y0 F10246_y0 w10246_y0 [(.own 3 38), (.ptr 1 0 24 [.keep, .keep, .keep, .keep]), (.ptr 2 0 26 [(.own 8 38)]), (.ptr 4 0 4 [.keep]), (.ptr 5 0 27 [.keep]), (.ptr 6 0 26 [(.own 8 38)]), (.yld 0 10246 [.any, .any, (.ptr 1 0 24 []), .any, (.ptr 2 0 26 []), (.ptr 4 0 4 []), (.ptr 5 0 27 []), (.ptr 6 0 26 []), .any, .any, .any, .any, .any, .any, .any, .any, .any, .any, .any, .any, .any, .any, .any, .any, .any, .any, .any])] [[(.own 3 38), (.ptr 1 0 24 [.keep, .keep, .keep, .keep]), (.ptr 2 0 26 [(.own 8 38)]), (.ptr 4 0 4 [.keep]), (.ptr 5 0 27 [.keep]), (.ptr 6 0 26 [(.own 8 38)]), (.yld 0 10246 [.any, .any, (.ptr 1 0 24 []), .any, (.ptr 2 0 26 []), (.ptr 4 0 4 []), (.ptr 5 0 27 []), (.ptr 6 0 26 []), .any, .any, .any, .any, .any, .any, .any, .any, .any, .any, .any, .any, .any, .any, .any, .any, .any, .any, .any])], [(.own 3 38), (.ptr 1 0 24 [.keep, .keep, .keep, .keep]), (.ptr 2 0 26 [(.own 3 38)]), (.ptr 4 0 4 [.keep]), (.ptr 5 0 27 [.keep]), (.ptr 6 0 26 [(.own 8 38)]), (.yld 0 10246 [.any, .any, (.ptr 1 0 24 []), .any, (.ptr 2 0 26 []), (.ptr 4 0 4 []), (.ptr 5 0 27 []), (.ptr 6 0 26 []), .any, .any, .any, .any, .any, .any, .any, .any, .any, .any, .any, .any, .any, .any, .any, .any, .any, .any, .any])]] (by kernel_rfl) [] 4000 L10246_y0 (by kernel_rfl)
    (fun _ h => nomatch h) (fun v _ h => ⟨0, (e10246_y0 _ v).trans h⟩) (fun _ => by kernel_rfl) (by kernel_rfl) (fun _ => by kernel_rfl) (fun _ r => by rcases r with r | r <;> kernel_rfl)
/- (chicane/steward.Rules).given$1 -/
abbrev A44_0 : Type := (List (Int × Int × Int × Int)) × (Int × Int × Int × Int) × (List (Int × Int × Bool)) × Int × Bool × (List (Int × Int × Bool)) × Int × Int × Int × Int
abbrev R44_0 : Type := ((List (Int × Int × Int × Int)) × (Int × Int × Int × Int) × Int × Bool × (List (Int × Int × Bool)) × (Int × Int × Int × Int) × List (Int × Int × Bool)) ⊕ ((List (Int × Int × Int × Int)) × (Int × Int × Int × Int) × (List (Int × Int × Bool)) × Int × Bool × (Int × Int × Int × Int) × List (Int × Int × Bool))
def v44_0 : Pk G ((List (Int × Int × Int × Int)) × (Int × Int × Int × Int) × (List (Int × Int × Bool)) × Int × Bool × (List (Int × Int × Bool)) × Int × Int × Int × Int) := (Pk.snd (pk (Sh.snd (Sh.cons (Sh.yld 0) (Sh.snd (Sh.cons (Sh.ptr 8 0) (Sh.snd (Sh.cons (Sh.ptr 9 0) Sh.nil)))))) (Sh.hfix 9 25 (Sh.fst (Sh.cons (Sh.ros 43) Sh.nil)) (Sh.hfix 8 24 (Sh.cons (Sh.int .i64) (Sh.cons (Sh.int .i64) (Sh.cons (Sh.int .i64) (Sh.fst (Sh.cons (Sh.int .i64) Sh.nil))))) (Sh.snd (Sh.hlp 0 10246 .ready (Sh.snd (Sh.cons Sh.any (Sh.snd (Sh.cons Sh.any (Sh.snd (Sh.cons (Sh.ptr 1 0) (Sh.snd (Sh.cons Sh.any (Sh.snd (Sh.cons (Sh.ptr 2 0) (Sh.snd (Sh.cons (Sh.ptr 4 0) (Sh.snd (Sh.cons (Sh.ptr 5 0) (Sh.snd (Sh.cons (Sh.ptr 6 0) (Sh.snd (Sh.cons Sh.any (Sh.snd (Sh.cons Sh.any (Sh.snd (Sh.cons Sh.any (Sh.snd (Sh.cons Sh.any (Sh.snd (Sh.cons Sh.any (Sh.snd (Sh.cons Sh.any (Sh.snd (Sh.cons Sh.any (Sh.snd (Sh.cons Sh.any (Sh.snd (Sh.cons Sh.any (Sh.snd (Sh.cons Sh.any (Sh.snd (Sh.cons Sh.any (Sh.snd (Sh.cons Sh.any (Sh.snd (Sh.cons Sh.any (Sh.snd (Sh.cons Sh.any (Sh.snd (Sh.cons Sh.any (Sh.snd (Sh.cons Sh.any (Sh.snd (Sh.cons Sh.any (Sh.snd (Sh.cons Sh.any (Sh.snd (Sh.cons Sh.any Sh.nil)))))))))))))))))))))))))))))))))))))))))))))))))))))) (Sh.snd (Sh.hfix 6 26 (Sh.snd (Sh.cons (Sh.osl 7) Sh.nil)) (Sh.hrow 7 38 (Sh.hfix 5 27 (Sh.fst (Sh.cons (Sh.int .i64) Sh.nil)) (Sh.hfix 4 4 (Sh.fst (Sh.cons Sh.bool Sh.nil)) (Sh.snd (Sh.hfix 2 26 (Sh.snd (Sh.cons (Sh.osl 3) Sh.nil)) (Sh.hrow 3 38 (Sh.fst (Sh.hfix 1 24 (Sh.cons (Sh.int .i64) (Sh.cons (Sh.int .i64) (Sh.cons (Sh.int .i64) (Sh.fst (Sh.cons (Sh.int .i64) Sh.nil))))) Sh.hnil))))))))))))))))
def w44_0 : Wk G (((List (Int × Int × Int × Int)) × (Int × Int × Int × Int) × Int × Bool × (List (Int × Int × Bool)) × (Int × Int × Int × Int) × List (Int × Int × Bool)) ⊕ ((List (Int × Int × Int × Int)) × (Int × Int × Int × Int) × (List (Int × Int × Bool)) × Int × Bool × (Int × Int × Int × Int) × List (Int × Int × Bool))) := (Wk.alt (Wk.one [] (Pk.snd (pk Sh.nil (Sh.hfix 9 25 (Sh.fst (Sh.cons (Sh.ros 43) Sh.nil)) (Sh.hfix 8 24 (Sh.cons (Sh.int .i64) (Sh.cons (Sh.int .i64) (Sh.cons (Sh.int .i64) (Sh.fst (Sh.cons (Sh.int .i64) Sh.nil))))) (Sh.snd (Sh.hlp 0 10246 (.done .ret) (Sh.snd (Sh.cons Sh.any (Sh.snd (Sh.cons Sh.any (Sh.snd (Sh.cons (Sh.ptr 1 0) (Sh.snd (Sh.cons Sh.any (Sh.snd (Sh.cons (Sh.ptr 2 0) (Sh.snd (Sh.cons (Sh.ptr 4 0) (Sh.snd (Sh.cons (Sh.ptr 5 0) (Sh.snd (Sh.cons (Sh.ptr 6 0) (Sh.snd (Sh.cons Sh.any (Sh.snd (Sh.cons Sh.any (Sh.snd (Sh.cons Sh.any (Sh.snd (Sh.cons Sh.any (Sh.snd (Sh.cons Sh.any (Sh.snd (Sh.cons Sh.any (Sh.snd (Sh.cons Sh.any (Sh.snd (Sh.cons Sh.any (Sh.snd (Sh.cons Sh.any (Sh.snd (Sh.cons Sh.any (Sh.snd (Sh.cons Sh.any (Sh.snd (Sh.cons Sh.any (Sh.snd (Sh.cons Sh.any (Sh.snd (Sh.cons Sh.any (Sh.snd (Sh.cons Sh.any (Sh.snd (Sh.cons Sh.any (Sh.snd (Sh.cons Sh.any (Sh.snd (Sh.cons Sh.any (Sh.snd (Sh.cons Sh.any Sh.nil)))))))))))))))))))))))))))))))))))))))))))))))))))))) (Sh.snd (Sh.hfix 6 26 (Sh.snd (Sh.cons (Sh.osl 10) Sh.nil)) (Sh.hfix 5 27 (Sh.fst (Sh.cons (Sh.int .i64) Sh.nil)) (Sh.hfix 4 4 (Sh.fst (Sh.cons Sh.bool Sh.nil)) (Sh.snd (Sh.hfix 2 26 (Sh.snd (Sh.cons (Sh.osl 10) Sh.nil)) (Sh.hrow 10 38 (Sh.hfix 1 24 (Sh.cons (Sh.int .i64) (Sh.cons (Sh.int .i64) (Sh.cons (Sh.int .i64) (Sh.fst (Sh.cons (Sh.int .i64) Sh.nil))))) (Sh.fst (Sh.hrow 3 38 Sh.hnil))))))))))))))))) (Wk.one [] (Pk.snd (pk Sh.nil (Sh.hfix 9 25 (Sh.fst (Sh.cons (Sh.ros 43) Sh.nil)) (Sh.hfix 8 24 (Sh.cons (Sh.int .i64) (Sh.cons (Sh.int .i64) (Sh.cons (Sh.int .i64) (Sh.fst (Sh.cons (Sh.int .i64) Sh.nil))))) (Sh.snd (Sh.hlp 0 10246 .ready (Sh.snd (Sh.cons Sh.any (Sh.snd (Sh.cons Sh.any (Sh.snd (Sh.cons (Sh.ptr 1 0) (Sh.snd (Sh.cons Sh.any (Sh.snd (Sh.cons (Sh.ptr 2 0) (Sh.snd (Sh.cons (Sh.ptr 4 0) (Sh.snd (Sh.cons (Sh.ptr 5 0) (Sh.snd (Sh.cons (Sh.ptr 6 0) (Sh.snd (Sh.cons Sh.any (Sh.snd (Sh.cons Sh.any (Sh.snd (Sh.cons Sh.any (Sh.snd (Sh.cons Sh.any (Sh.snd (Sh.cons Sh.any (Sh.snd (Sh.cons Sh.any (Sh.snd (Sh.cons Sh.any (Sh.snd (Sh.cons Sh.any (Sh.snd (Sh.cons Sh.any (Sh.snd (Sh.cons Sh.any (Sh.snd (Sh.cons Sh.any (Sh.snd (Sh.cons Sh.any (Sh.snd (Sh.cons Sh.any (Sh.snd (Sh.cons Sh.any (Sh.snd (Sh.cons Sh.any (Sh.snd (Sh.cons Sh.any (Sh.snd (Sh.cons Sh.any (Sh.snd (Sh.cons Sh.any (Sh.snd (Sh.cons Sh.any Sh.nil)))))))))))))))))))))))))))))))))))))))))))))))))))))) (Sh.snd (Sh.hfix 6 26 (Sh.snd (Sh.cons (Sh.osl 10) Sh.nil)) (Sh.hrow 10 38 (Sh.hfix 5 27 (Sh.fst (Sh.cons (Sh.int .i64) Sh.nil)) (Sh.hfix 4 4 (Sh.fst (Sh.cons Sh.bool Sh.nil)) (Sh.snd (Sh.hfix 2 26 (Sh.snd (Sh.cons (Sh.osl 3) Sh.nil)) (Sh.hfix 1 24 (Sh.cons (Sh.int .i64) (Sh.cons (Sh.int .i64) (Sh.cons (Sh.int .i64) (Sh.fst (Sh.cons (Sh.int .i64) Sh.nil))))) (Sh.fst (Sh.hrow 3 38 Sh.hnil))))))))))))))))))
def c44_0_3 : Pk G ((Int × (List (Int × Int × Int × Int)) × Int × Int) × (Int × Int × Int × Int) × (List (Int × Int × Int × Int)) × (Int × Int × Int × Int) × (List (Int × Int × Bool)) × Int × Bool × (Int × Int × Int × Int) × List (Int × Int × Bool)) := (pk (Sh.snd (Sh.cons (Sh.yld 0) (Sh.snd (Sh.cons (Sh.ptr 8 0) (Sh.cons (Sh.int .i64) (Sh.snd (Sh.cons (Sh.ptr 11 0) (Sh.cons (Sh.ros 43) (Sh.cons (Sh.int .i64) (Sh.fst (Sh.cons (Sh.int .i64) Sh.nil))))))))))) (Sh.hfix 11 43 (Sh.cons (Sh.int .i64) (Sh.cons (Sh.int .i64) (Sh.cons (Sh.int .i64) (Sh.fst (Sh.cons (Sh.int .i64) Sh.nil))))) (Sh.hfix 9 25 (Sh.fst (Sh.cons (Sh.ros 43) Sh.nil)) (Sh.hfix 8 24 (Sh.cons (Sh.int .i64) (Sh.cons (Sh.int .i64) (Sh.cons (Sh.int .i64) (Sh.fst (Sh.cons (Sh.int .i64) Sh.nil))))) (Sh.snd (Sh.hlp 0 10246 .ready (Sh.snd (Sh.cons Sh.any (Sh.snd (Sh.cons Sh.any (Sh.snd (Sh.cons (Sh.ptr 1 0) (Sh.snd (Sh.cons Sh.any (Sh.snd (Sh.cons (Sh.ptr 2 0) (Sh.snd (Sh.cons (Sh.ptr 4 0) (Sh.snd (Sh.cons (Sh.ptr 5 0) (Sh.snd (Sh.cons (Sh.ptr 6 0) (Sh.snd (Sh.cons Sh.any (Sh.snd (Sh.cons Sh.any (Sh.snd (Sh.cons Sh.any (Sh.snd (Sh.cons Sh.any (Sh.snd (Sh.cons Sh.any (Sh.snd (Sh.cons Sh.any (Sh.snd (Sh.cons Sh.any (Sh.snd (Sh.cons Sh.any (Sh.snd (Sh.cons Sh.any (Sh.snd (Sh.cons Sh.any (Sh.snd (Sh.cons Sh.any (Sh.snd (Sh.cons Sh.any (Sh.snd (Sh.cons Sh.any (Sh.snd (Sh.cons Sh.any (Sh.snd (Sh.cons Sh.any (Sh.snd (Sh.cons Sh.any (Sh.snd (Sh.cons Sh.any (Sh.snd (Sh.cons Sh.any (Sh.snd (Sh.cons Sh.any Sh.nil)))))))))))))))))))))))))))))))))))))))))))))))))))))) (Sh.snd (Sh.hfix 6 26 (Sh.snd (Sh.cons (Sh.osl 10) Sh.nil)) (Sh.hrow 10 38 (Sh.hfix 5 27 (Sh.fst (Sh.cons (Sh.int .i64) Sh.nil)) (Sh.hfix 4 4 (Sh.fst (Sh.cons Sh.bool Sh.nil)) (Sh.snd (Sh.hfix 2 26 (Sh.snd (Sh.cons (Sh.osl 3) Sh.nil)) (Sh.hfix 1 24 (Sh.cons (Sh.int .i64) (Sh.cons (Sh.int .i64) (Sh.cons (Sh.int .i64) (Sh.fst (Sh.cons (Sh.int .i64) Sh.nil))))) (Sh.fst (Sh.hrow 3 38 Sh.hnil))))))))))))))))
def B44_0_3 (K : (((Int × (List (Int × Int × Int × Int)) × Int × Int) × (Int × Int × Int × Int) × (List (Int × Int × Int × Int)) × (Int × Int × Int × Int) × (List (Int × Int × Bool)) × Int × Bool × (Int × Int × Int × Int) × List (Int × Int × Bool)) → Option (((List (Int × Int × Int × Int)) × (Int × Int × Int × Int) × Int × Bool × (List (Int × Int × Bool)) × (Int × Int × Int × Int) × List (Int × Int × Bool)) ⊕ ((List (Int × Int × Int × Int)) × (Int × Int × Int × Int) × (List (Int × Int × Bool)) × Int × Bool × (Int × Int × Int × Int) × List (Int × Int × Bool))))) (v : (Int × (List (Int × Int × Int × Int)) × Int × Int) × (Int × Int × Int × Int) × (List (Int × Int × Int × Int)) × (Int × Int × Int × Int) × (List (Int × Int × Bool)) × Int × Bool × (Int × Int × Int × Int) × List (Int × Int × Bool)) : Option (((List (Int × Int × Int × Int)) × (Int × Int × Int × Int) × Int × Bool × (List (Int × Int × Bool)) × (Int × Int × Int × Int) × List (Int × Int × Bool)) ⊕ ((List (Int × Int × Int × Int)) × (Int × Int × Int × Int) × (List (Int × Int × Bool)) × Int × Bool × (Int × Int × Int × Int) × List (Int × Int × Bool))) :=
  bif (decide (v.1.2.2.2 < v.1.2.2.1)) then
    (rdx v.1.2.1 v.1.2.2.2).bind fun (x103 : Int × Int × Int × Int) =>
    bif (v.2.1.1 == (4 : Int)) then
      bif (v.2.1.2.2.1 == x103.2.2.1) then
        bif (x103.1 == (4 : Int)) then
          (F10246_y0 ((x103.2.2.1, (v.2.2.2.1.1, false)), (v.2.2.2.2.1, (v.2.2.2.2.2.1, (v.2.2.2.2.2.2.1, (v.2.2.2.2.2.2.2.2, v.2.2.2.2.2.2.2.1)))))).bind fun r104 =>
          match r104 with
          | .inl r105 =>
            bif (!r105.1) then
              some (.inl (v.2.2.1, (v.2.2.2.1, r105.2)))
            else
              none
          | .inr r106 =>
            bif (!r106.1) then
              some (.inr (v.2.2.1, (v.2.2.2.1, r106.2)))
            else
              let x108 : Int := (IntKind.wrap .i64 (v.1.2.2.2 + (1 : Int)))
              K ((v.1.1, (v.1.2.1, (v.1.2.2.1, x108))), (x103, (v.2.2.1, (v.2.2.2.1, r106.2))))
        else
          bif (x103.1 != (5 : Int)) then
            let x109 : Int := (IntKind.wrap .i64 (v.1.2.2.2 + (1 : Int)))
            K ((v.1.1, (v.1.2.1, (v.1.2.2.1, x109))), (x103, v.2.2))
          else
            bif (v.2.1.2.1 == x103.2.1) then
              let x110 : Int := (IntKind.wrap .i64 (v.1.2.2.2 + (1 : Int)))
              K ((v.1.1, (v.1.2.1, (v.1.2.2.1, x110))), (x103, v.2.2))
            else
              bif (decide (v.1.1 > (0 : Int))) then
                let x111 : Int := (IntKind.wrap .i64 (v.1.1 - (1 : Int)))
                let x112 : Int := (IntKind.wrap .i64 (v.1.2.2.2 + (1 : Int)))
                K ((x111, (v.1.2.1, (v.1.2.2.1, x112))), (x103, v.2.2))
              else
                (F10246_y0 ((x103.2.2.1, (v.2.2.2.1.2.1, true)), (v.2.2.2.2.1, (v.2.2.2.2.2.1, (v.2.2.2.2.2.2.1, (v.2.2.2.2.2.2.2.2, v.2.2.2.2.2.2.2.1)))))).bind fun r113 =>
                match r113 with
                | .inl r114 =>
                  bif (!r114.1) then
                    some (.inl (v.2.2.1, (v.2.2.2.1, r114.2)))
                  else
                    none
                | .inr r115 =>
                  bif (!r115.1) then
                    some (.inr (v.2.2.1, (v.2.2.2.1, r115.2)))
                  else
                    let x117 : Int := (IntKind.wrap .i64 (v.1.2.2.2 + (1 : Int)))
                    K ((v.1.1, (v.1.2.1, (v.1.2.2.1, x117))), (x103, (v.2.2.1, (v.2.2.2.1, r115.2))))
      else
        bif (x103.1 == (4 : Int)) then
          (F10246_y0 ((x103.2.2.1, (v.2.2.2.1.1, false)), (v.2.2.2.2.1, (v.2.2.2.2.2.1, (v.2.2.2.2.2.2.1, (v.2.2.2.2.2.2.2.2, v.2.2.2.2.2.2.2.1)))))).bind fun r118 =>
          match r118 with
          | .inl r119 =>
            bif (!r119.1) then
              some (.inl (v.2.2.1, (v.2.2.2.1, r119.2)))
            else
              none
          | .inr r120 =>
            bif (!r120.1) then
              some (.inr (v.2.2.1, (v.2.2.2.1, r120.2)))
            else
              let x122 : Int := (IntKind.wrap .i64 (v.1.2.2.2 + (1 : Int)))
              K ((v.1.1, (v.1.2.1, (v.1.2.2.1, x122))), (x103, (v.2.2.1, (v.2.2.2.1, r120.2))))
        else
          bif (x103.1 != (5 : Int)) then
            let x123 : Int := (IntKind.wrap .i64 (v.1.2.2.2 + (1 : Int)))
            K ((v.1.1, (v.1.2.1, (v.1.2.2.1, x123))), (x103, v.2.2))
          else
            bif (decide (v.1.1 > (0 : Int))) then
              let x124 : Int := (IntKind.wrap .i64 (v.1.1 - (1 : Int)))
              let x125 : Int := (IntKind.wrap .i64 (v.1.2.2.2 + (1 : Int)))
              K ((x124, (v.1.2.1, (v.1.2.2.1, x125))), (x103, v.2.2))
            else
              (F10246_y0 ((x103.2.2.1, (v.2.2.2.1.2.1, true)), (v.2.2.2.2.1, (v.2.2.2.2.2.1, (v.2.2.2.2.2.2.1, (v.2.2.2.2.2.2.2.2, v.2.2.2.2.2.2.2.1)))))).bind fun r126 =>
              match r126 with
              | .inl r127 =>
                bif (!r127.1) then
                  some (.inl (v.2.2.1, (v.2.2.2.1, r127.2)))
                else
                  none
              | .inr r128 =>
                bif (!r128.1) then
                  some (.inr (v.2.2.1, (v.2.2.2.1, r128.2)))
                else
                  let x130 : Int := (IntKind.wrap .i64 (v.1.2.2.2 + (1 : Int)))
                  K ((v.1.1, (v.1.2.1, (v.1.2.2.1, x130))), (x103, (v.2.2.1, (v.2.2.2.1, r128.2))))
    else
      bif (x103.1 == (4 : Int)) then
        (F10246_y0 ((x103.2.2.1, (v.2.2.2.1.1, false)), (v.2.2.2.2.1, (v.2.2.2.2.2.1, (v.2.2.2.2.2.2.1, (v.2.2.2.2.2.2.2.2, v.2.2.2.2.2.2.2.1)))))).bind fun r131 =>
        match r131 with
        | .inl r132 =>
          bif (!r132.1) then
            some (.inl (v.2.2.1, (v.2.2.2.1, r132.2)))
          else
            none
        | .inr r133 =>
          bif (!r133.1) then
            some (.inr (v.2.2.1, (v.2.2.2.1, r133.2)))
          else
            let x135 : Int := (IntKind.wrap .i64 (v.1.2.2.2 + (1 : Int)))
            K ((v.1.1, (v.1.2.1, (v.1.2.2.1, x135))), (x103, (v.2.2.1, (v.2.2.2.1, r133.2))))
      else
        bif (x103.1 != (5 : Int)) then
          let x136 : Int := (IntKind.wrap .i64 (v.1.2.2.2 + (1 : Int)))
          K ((v.1.1, (v.1.2.1, (v.1.2.2.1, x136))), (x103, v.2.2))
        else
          bif (decide (v.1.1 > (0 : Int))) then
            let x137 : Int := (IntKind.wrap .i64 (v.1.1 - (1 : Int)))
            let x138 : Int := (IntKind.wrap .i64 (v.1.2.2.2 + (1 : Int)))
            K ((x137, (v.1.2.1, (v.1.2.2.1, x138))), (x103, v.2.2))
          else
            (F10246_y0 ((x103.2.2.1, (v.2.2.2.1.2.1, true)), (v.2.2.2.2.1, (v.2.2.2.2.2.1, (v.2.2.2.2.2.2.1, (v.2.2.2.2.2.2.2.2, v.2.2.2.2.2.2.2.1)))))).bind fun r139 =>
            match r139 with
            | .inl r140 =>
              bif (!r140.1) then
                some (.inl (v.2.2.1, (v.2.2.2.1, r140.2)))
              else
                none
            | .inr r141 =>
              bif (!r141.1) then
                some (.inr (v.2.2.1, (v.2.2.2.1, r141.2)))
              else
                let x143 : Int := (IntKind.wrap .i64 (v.1.2.2.2 + (1 : Int)))
                K ((v.1.1, (v.1.2.1, (v.1.2.2.1, x143))), (x103, (v.2.2.1, (v.2.2.2.1, r141.2))))
  else
    some (.inr v.2.2)

def E44_0 (K : (((Int × (List (Int × Int × Int × Int)) × Int × Int) × (Int × Int × Int × Int) × (List (Int × Int × Int × Int)) × (Int × Int × Int × Int) × (List (Int × Int × Bool)) × Int × Bool × (Int × Int × Int × Int) × List (Int × Int × Bool)) → Option (((List (Int × Int × Int × Int)) × (Int × Int × Int × Int) × Int × Bool × (List (Int × Int × Bool)) × (Int × Int × Int × Int) × List (Int × Int × Bool)) ⊕ ((List (Int × Int × Int × Int)) × (Int × Int × Int × Int) × (List (Int × Int × Bool)) × Int × Bool × (Int × Int × Int × Int) × List (Int × Int × Bool))))) (v : (List (Int × Int × Int × Int)) × (Int × Int × Int × Int) × (List (Int × Int × Bool)) × Int × Bool × (List (Int × Int × Bool)) × Int × Int × Int × Int) : Option (((List (Int × Int × Int × Int)) × (Int × Int × Int × Int) × Int × Bool × (List (Int × Int × Bool)) × (Int × Int × Int × Int) × List (Int × Int × Bool)) ⊕ ((List (Int × Int × Int × Int)) × (Int × Int × Int × Int) × (List (Int × Int × Bool)) × Int × Bool × (Int × Int × Int × Int) × List (Int × Int × Bool))) :=
  K ((v.2.1.2.2.1, (v.1, (((v.1).length : Int), (0 : Int)))), (((0 : Int), ((0 : Int), ((0 : Int), (0 : Int)))), (v.1, (v.2.1, (v.2.2.1, (v.2.2.2.1, (v.2.2.2.2.1, (v.2.2.2.2.2.2, v.2.2.2.2.2.1))))))))

def K44_0 : Nat → (((Int × (List (Int × Int × Int × Int)) × Int × Int) × (Int × Int × Int × Int) × (List (Int × Int × Int × Int)) × (Int × Int × Int × Int) × (List (Int × Int × Bool)) × Int × Bool × (Int × Int × Int × Int) × List (Int × Int × Bool)) → Option (((List (Int × Int × Int × Int)) × (Int × Int × Int × Int) × Int × Bool × (List (Int × Int × Bool)) × (Int × Int × Int × Int) × List (Int × Int × Bool)) ⊕ ((List (Int × Int × Int × Int)) × (Int × Int × Int × Int) × (List (Int × Int × Bool)) × Int × Bool × (Int × Int × Int × Int) × List (Int × Int × Bool))))
  | 0 => (fun _ => none)
  | n + 1 => (B44_0_3 (K44_0 n))
def fuel44_0 (v : (List (Int × Int × Int × Int)) × (Int × Int × Int × Int) × (List (Int × Int × Bool)) × Int × Bool × (List (Int × Int × Bool)) × Int × Int × Int × Int) : Nat := 1000
def F44_0 (v : (List (Int × Int × Int × Int)) × (Int × Int × Int × Int) × (List (Int × Int × Bool)) × Int × Bool × (List (Int × Int × Bool)) × Int × Int × Int × Int) : Option (((List (Int × Int × Int × Int)) × (Int × Int × Int × Int) × Int × Bool × (List (Int × Int × Bool)) × (Int × Int × Int × Int) × List (Int × Int × Bool)) ⊕ ((List (Int × Int × Int × Int)) × (Int × Int × Int × Int) × (List (Int × Int × Bool)) × Int × Bool × (Int × Int × Int × Int) × List (Int × Int × Bool))) := E44_0 (K44_0 (fuel44_0 v)) v
noncomputable def k44_0 : List (Known Try.prog E) := [Known.ofR envOk [13, 9] [(.yld 0 10246 [.any, .any, (.ptr 1 0 24 [.keep, .keep, .keep, .keep]), .any, (.ptr 2 0 26 [(.own 3 38)]), (.ptr 4 0 4 [.keep]), (.ptr 5 0 27 [.keep]), (.ptr 6 0 26 [(.own 7 38)]), .any, .any, .any, .any, .any, .any, .any, .any, .any, .any, .any, .any, .any, .any, .any, .any, .any, .any, .any]), (.agg [.keep, .keep, .keep])] v10246_y0 F10246_y0 w10246_y0 ok10246_y0]
def s44_0_3 : List (Nat × Pat) := [(0, (.yld 0 10246 [])), (1, (.ptr 8 0 24 [])), (4, .keep), (5, (.ptr 11 0 43 [.keep, .keep, .keep, .keep])), (11, (.ros 43)), (12, .keep), (13, .keep)]
noncomputable def L44_0 (n id : Nat) (st : St G) : Option (((List (Int × Int × Int × Int)) × (Int × Int × Int × Int) × Int × Bool × (List (Int × Int × Bool)) × (Int × Int × Int × Int) × List (Int × Int × Bool)) ⊕ ((List (Int × Int × Int × Int)) × (Int × Int × Int × Int) × (List (Int × Int × Bool)) × Int × Bool × (Int × Int × Int × Int) × List (Int × Int × Bool))) := match Nat.beq id 3 with | true => cutK Try.prog s44_0_3 [(.own 3 38), (.ptr 1 0 24 [.keep, .keep, .keep, .keep]), (.ptr 2 0 26 [(.own 3 38)]), (.ptr 4 0 4 [.keep]), (.ptr 5 0 27 [.keep]), (.ptr 6 0 26 [(.own 10 38)]), (.yld 0 10246 [.any, .any, (.ptr 1 0 24 []), .any, (.ptr 2 0 26 []), (.ptr 4 0 4 []), (.ptr 5 0 27 []), (.ptr 6 0 26 []), .any, .any, .any, .any, .any, .any, .any, .any, .any, .any, .any, .any, .any, .any, .any, .any, .any, .any, .any]), (.ptr 8 0 24 [.keep, .keep, .keep, .keep]), (.ptr 9 0 25 [(.ros 43)])] c44_0_3.dec (K44_0 n) st | false => none
set_option maxRecDepth 100000 in
theorem e44_0 (n : Nat) (v : (List (Int × Int × Int × Int)) × (Int × Int × Int × Int) × (List (Int × Int × Bool)) × Int × Bool × (List (Int × Int × Bool)) × Int × Int × Int × Int) : ev Try.prog E (oracle k44_0) Try.f44.ntmps (fun x => mem x [3]) (L44_0 n) (finF Try.prog E Try.f44.results.toList [[(.own 3 38), (.ptr 1 0 24 [.keep, .keep, .keep, .keep]), (.ptr 2 0 26 [(.own 10 38)]), (.ptr 4 0 4 [.keep]), (.ptr 5 0 27 [.keep]), (.ptr 6 0 26 [(.own 10 38)]), (.yld 0 10246 [.any, .any, (.ptr 1 0 24 []), .any, (.ptr 2 0 26 []), (.ptr 4 0 4 []), (.ptr 5 0 27 []), (.ptr 6 0 26 []), .any, .any, .any, .any, .any, .any, .any, .any, .any, .any, .any, .any, .any, .any, .any, .any, .any, .any, .any]), (.ptr 8 0 24 [.keep, .keep, .keep, .keep]), (.ptr 9 0 25 [(.ros 43)])], [(.own 3 38), (.ptr 1 0 24 [.keep, .keep, .keep, .keep]), (.ptr 2 0 26 [(.own 3 38)]), (.ptr 4 0 4 [.keep]), (.ptr 5 0 27 [.keep]), (.ptr 6 0 26 [(.own 10 38)]), (.yld 0 10246 [.any, .any, (.ptr 1 0 24 []), .any, (.ptr 2 0 26 []), (.ptr 4 0 4 []), (.ptr 5 0 27 []), (.ptr 6 0 26 []), .any, .any, .any, .any, .any, .any, .any, .any, .any, .any, .any, .any, .any, .any, .any, .any, .any, .any, .any]), (.ptr 8 0 24 [.keep, .keep, .keep, .keep]), (.ptr 9 0 25 [(.ros 43)])]] w44_0.alts) 4000 [.code (Try.f44.body.getD .skip)] (argSt (v44_0.enc v)) = E44_0 (K44_0 n) v := by kernel_rfl
set_option maxRecDepth 100000 in
theorem b44_0_3 (n : Nat) (v : (Int × (List (Int × Int × Int × Int)) × Int × Int) × (Int × Int × Int × Int) × (List (Int × Int × Int × Int)) × (Int × Int × Int × Int) × (List (Int × Int × Bool)) × Int × Bool × (Int × Int × Int × Int) × List (Int × Int × Bool)) : evCut Try.prog E (oracle k44_0) false 44 Try.f44.ntmps (fun x => mem x [3]) (L44_0 n) (finF Try.prog E Try.f44.results.toList [[(.own 3 38), (.ptr 1 0 24 [.keep, .keep, .keep, .keep]), (.ptr 2 0 26 [(.own 10 38)]), (.ptr 4 0 4 [.keep]), (.ptr 5 0 27 [.keep]), (.ptr 6 0 26 [(.own 10 38)]), (.yld 0 10246 [.any, .any, (.ptr 1 0 24 []), .any, (.ptr 2 0 26 []), (.ptr 4 0 4 []), (.ptr 5 0 27 []), (.ptr 6 0 26 []), .any, .any, .any, .any, .any, .any, .any, .any, .any, .any, .any, .any, .any, .any, .any, .any, .any, .any, .any]), (.ptr 8 0 24 [.keep, .keep, .keep, .keep]), (.ptr 9 0 25 [(.ros 43)])], [(.own 3 38), (.ptr 1 0 24 [.keep, .keep, .keep, .keep]), (.ptr 2 0 26 [(.own 3 38)]), (.ptr 4 0 4 [.keep]), (.ptr 5 0 27 [.keep]), (.ptr 6 0 26 [(.own 10 38)]), (.yld 0 10246 [.any, .any, (.ptr 1 0 24 []), .any, (.ptr 2 0 26 []), (.ptr 4 0 4 []), (.ptr 5 0 27 []), (.ptr 6 0 26 []), .any, .any, .any, .any, .any, .any, .any, .any, .any, .any, .any, .any, .any, .any, .any, .any, .any, .any, .any]), (.ptr 8 0 24 [.keep, .keep, .keep, .keep]), (.ptr 9 0 25 [(.ros 43)])]] w44_0.alts) 4000 (todoAt (Try.f44.body.getD .skip) 3) (cutSt s44_0_3 (c44_0_3.enc v)) = B44_0_3 (K44_0 n) v := by kernel_rfl
theorem ok44_0 : FnOk Try.prog E 44 v44_0.enc F44_0 w44_0.enc :=
  fn_known (fn := Try.f44) (c := (Try.f44.body.getD .skip)) Try.func44 (by kernel_rfl) rfl envOk (oracle_ok k44_0) mixed v44_0 F44_0 w44_0 [(.own 3 38), (.ptr 1 0 24 [.keep, .keep, .keep, .keep]), (.ptr 2 0 26 [(.own 10 38)]), (.ptr 4 0 4 [.keep]), (.ptr 5 0 27 [.keep]), (.ptr 6 0 26 [(.own 10 38)]), (.yld 0 10246 [.any, .any, (.ptr 1 0 24 []), .any, (.ptr 2 0 26 []), (.ptr 4 0 4 []), (.ptr 5 0 27 []), (.ptr 6 0 26 []), .any, .any, .any, .any, .any, .any, .any, .any, .any, .any, .any, .any, .any, .any, .any, .any, .any, .any, .any]), (.ptr 8 0 24 [.keep, .keep, .keep, .keep]), (.ptr 9 0 25 [(.ros 43)])] [[(.own 3 38), (.ptr 1 0 24 [.keep, .keep, .keep, .keep]), (.ptr 2 0 26 [(.own 10 38)]), (.ptr 4 0 4 [.keep]), (.ptr 5 0 27 [.keep]), (.ptr 6 0 26 [(.own 10 38)]), (.yld 0 10246 [.any, .any, (.ptr 1 0 24 []), .any, (.ptr 2 0 26 []), (.ptr 4 0 4 []), (.ptr 5 0 27 []), (.ptr 6 0 26 []), .any, .any, .any, .any, .any, .any, .any, .any, .any, .any, .any, .any, .any, .any, .any, .any, .any, .any, .any]), (.ptr 8 0 24 [.keep, .keep, .keep, .keep]), (.ptr 9 0 25 [(.ros 43)])], [(.own 3 38), (.ptr 1 0 24 [.keep, .keep, .keep, .keep]), (.ptr 2 0 26 [(.own 3 38)]), (.ptr 4 0 4 [.keep]), (.ptr 5 0 27 [.keep]), (.ptr 6 0 26 [(.own 10 38)]), (.yld 0 10246 [.any, .any, (.ptr 1 0 24 []), .any, (.ptr 2 0 26 []), (.ptr 4 0 4 []), (.ptr 5 0 27 []), (.ptr 6 0 26 []), .any, .any, .any, .any, .any, .any, .any, .any, .any, .any, .any, .any, .any, .any, .any, .any, .any, .any, .any]), (.ptr 8 0 24 [.keep, .keep, .keep, .keep]), (.ptr 9 0 25 [(.ros 43)])]] (by kernel_rfl) [3] 4000 L44_0 (by kernel_rfl)
    (List.forall_mem_cons.2 ⟨⟨_, [(.own 3 38), (.ptr 1 0 24 [.keep, .keep, .keep, .keep]), (.ptr 2 0 26 [(.own 3 38)]), (.ptr 4 0 4 [.keep]), (.ptr 5 0 27 [.keep]), (.ptr 6 0 26 [(.own 10 38)]), (.yld 0 10246 [.any, .any, (.ptr 1 0 24 []), .any, (.ptr 2 0 26 []), (.ptr 4 0 4 []), (.ptr 5 0 27 []), (.ptr 6 0 26 []), .any, .any, .any, .any, .any, .any, .any, .any, .any, .any, .any, .any, .any, .any, .any, .any, .any, .any, .any]), (.ptr 8 0 24 [.keep, .keep, .keep, .keep]), (.ptr 9 0 25 [(.ros 43)])], s44_0_3, c44_0_3.dec, c44_0_3.enc, fun n => (K44_0 n), c44_0_3.ok, fun _ _ => rfl, fun _ => rfl, by kernel_rfl, fun n v _ h => (b44_0_3 n v).trans h⟩, fun _ h => (nomatch h)⟩) (fun v _ h => ⟨fuel44_0 v, (e44_0 _ v).trans h⟩) (fun _ => by kernel_rfl) (fun _ => by kernel_rfl) (fun _ r => by rcases r with r | r <;> kernel_rfl)
/- chicane/steward.Judge -/
abbrev A10_0 : Type := (Int × Int × Int × Int) × List (Int × Int × Int × Int)
abbrev R10_0 : Type := (Bool × Int) × List (Int × Int × Bool)
def v10_0 : Pk G ((Int × Int × Int × Int) × List (Int × Int × Int × Int)) := (Pk.fst (pk (Sh.cons (Sh.agg (Sh.cons (Sh.int .i64) (Sh.cons (Sh.int .i64) (Sh.cons (Sh.int .i64) (Sh.fst (Sh.cons (Sh.int .i64) Sh.nil)))))) (Sh.fst (Sh.cons (Sh.ros 43) Sh.nil))) Sh.hnil))
def w10_0 : Wk G ((Bool × Int) × List (Int × Int × Bool)) := (Wk.one [(.own 0 38), .keep, .keep] (pk (Sh.snd (Sh.cons (Sh.osl 0) (Sh.cons Sh.bool (Sh.fst (Sh.cons (Sh.int .i64) Sh.nil))))) (Sh.fst (Sh.hrow 0 38 Sh.hnil))))
def c10_0_6 : Pk G ((List (Int × Int × Int × Int)) × (Int × Int × Int × Int) × (List (Int × Int × Bool)) × Int × Bool × (List (Int × Int × Bool)) × Int × Int × Int × Int) := (Pk.snd (pk (Sh.snd (Sh.cons (Sh.ptr 0 0) (Sh.snd (Sh.cons (Sh.ptr 1 0) (Sh.snd (Sh.cons (Sh.ptr 3 0) (Sh.snd (Sh.cons (Sh.ptr 4 0) (Sh.snd (Sh.cons (Sh.ptr 5 0) (Sh.snd (Sh.cons (Sh.snd (Sh.fn (.func 44) Sh.nil (Sh.snd (Sh.cons (Sh.ptr 7 0) (Sh.snd (Sh.cons (Sh.ptr 8 0) Sh.nil)))))) Sh.nil)))))))))))) (Sh.hfix 8 25 (Sh.fst (Sh.cons (Sh.ros 43) Sh.nil)) (Sh.hfix 7 24 (Sh.cons (Sh.int .i64) (Sh.cons (Sh.int .i64) (Sh.cons (Sh.int .i64) (Sh.fst (Sh.cons (Sh.int .i64) Sh.nil))))) (Sh.snd (Sh.hfix 5 26 (Sh.snd (Sh.cons (Sh.osl 6) Sh.nil)) (Sh.hrow 6 38 (Sh.hfix 4 27 (Sh.fst (Sh.cons (Sh.int .i64) Sh.nil)) (Sh.hfix 3 4 (Sh.fst (Sh.cons Sh.bool Sh.nil)) (Sh.snd (Sh.hfix 1 26 (Sh.snd (Sh.cons (Sh.osl 2) Sh.nil)) (Sh.hrow 2 38 (Sh.fst (Sh.hfix 0 24 (Sh.cons (Sh.int .i64) (Sh.cons (Sh.int .i64) (Sh.cons (Sh.int .i64) (Sh.fst (Sh.cons (Sh.int .i64) Sh.nil))))) Sh.hnil))))))))))))))
def B10_0_6 (K : (((List (Int × Int × Int × Int)) × (Int × Int × Int × Int) × (List (Int × Int × Bool)) × Int × Bool × (List (Int × Int × Bool)) × Int × Int × Int × Int) → Option ((Bool × Int) × List (Int × Int × Bool)))) (v : (List (Int × Int × Int × Int)) × (Int × Int × Int × Int) × (List (Int × Int × Bool)) × Int × Bool × (List (Int × Int × Bool)) × Int × Int × Int × Int) : Option ((Bool × Int) × List (Int × Int × Bool)) :=
  (F44_0 v).bind fun r155 =>
  match r155 with
  | .inl r156 =>
    some ((r156.2.2.2.1, r156.2.2.1), r156.2.2.2.2.1)
  | .inr r157 =>
    some ((false, (0 : Int)), r157.2.2.1)

def E10_0 (K : (((List (Int × Int × Int × Int)) × (Int × Int × Int × Int) × (List (Int × Int × Bool)) × Int × Bool × (List (Int × Int × Bool)) × Int × Int × Int × Int) → Option ((Bool × Int) × List (Int × Int × Bool)))) (v : (Int × Int × Int × Int) × List (Int × Int × Int × Int)) : Option ((Bool × Int) × List (Int × Int × Bool)) :=
  (F30_0 v.1).bind fun r153 =>
  bif (!r153) then
    some ((false, (40 : Int)), ([] : List (Int × Int × Bool)))
  else
    (F31_0 v).bind fun r154 =>
    K (r154.1, (r154.2, (([] : List (Int × Int × Bool)), ((0 : Int), (false, (([] : List (Int × Int × Bool)), v.1))))))

def K10_0 : Nat → (((List (Int × Int × Int × Int)) × (Int × Int × Int × Int) × (List (Int × Int × Bool)) × Int × Bool × (List (Int × Int × Bool)) × Int × Int × Int × Int) → Option ((Bool × Int) × List (Int × Int × Bool)))
  | 0 => (fun _ => none)
  | n + 1 => (B10_0_6 (K10_0 n))
def fuel10_0 (v : (Int × Int × Int × Int) × List (Int × Int × Int × Int)) : Nat := 1000
def F10_0 (v : (Int × Int × Int × Int) × List (Int × Int × Int × Int)) : Option ((Bool × Int) × List (Int × Int × Bool)) := E10_0 (K10_0 (fuel10_0 v)) v
noncomputable def k10_0 : List (Known Try.prog E) := [Known.of envOk [9] [(.agg [.keep, .keep, .keep, .keep])] v30_0 F30_0 w30_0 ok30_0, Known.of envOk [9, 7] [(.agg [.keep, .keep, .keep, .keep]), (.ros 43)] v31_0 F31_0 w31_0 ok31_0, Known.of envOk [13, 5, 5] [(.yld 0 10246 [.any, .any, (.ptr 1 0 24 [.keep, .keep, .keep, .keep]), .any, (.ptr 2 0 26 [(.own 3 38)]), (.ptr 4 0 4 [.keep]), (.ptr 5 0 27 [.keep]), (.ptr 6 0 26 [(.own 7 38)]), .any, .any, .any, .any, .any, .any, .any, .any, .any, .any, .any, .any, .any, .any, .any, .any, .any, .any, .any]), (.ptr 8 0 24 [.keep, .keep, .keep, .keep]), (.ptr 9 0 25 [(.ros 43)])] v44_0 F44_0 w44_0 ok44_0]
def s10_0_6 : List (Nat × Pat) := [(2, (.ptr 0 0 24 [.keep, .keep, .keep, .keep])), (4, (.ptr 1 0 26 [(.own 2 38)])), (5, (.ptr 3 0 4 [.keep])), (6, (.ptr 4 0 27 [.keep])), (7, (.ptr 5 0 26 [(.own 6 38)])), (14, (.fn (.func 44) [] [(.ptr 7 0 24 [.keep, .keep, .keep, .keep]), (.ptr 8 0 25 [(.ros 43)])]))]
noncomputable def L10_0 (n id : Nat) (st : St G) : Option ((Bool × Int) × List (Int × Int × Bool)) := match Nat.beq id 6 with | true => cutK Try.prog s10_0_6 [] c10_0_6.dec (K10_0 n) st | false => none
set_option maxRecDepth 100000 in
theorem e10_0 (n : Nat) (v : (Int × Int × Int × Int) × List (Int × Int × Int × Int)) : ev Try.prog E (oracle k10_0) Try.f10.ntmps (fun x => mem x [6]) (L10_0 n) (finF Try.prog E Try.f10.results.toList [[]] w10_0.alts) 4000 [.code (Try.f10.body.getD .skip)] (argSt (v10_0.enc v)) = E10_0 (K10_0 n) v := by kernel_rfl
set_option maxRecDepth 100000 in
theorem b10_0_6 (n : Nat) (v : (List (Int × Int × Int × Int)) × (Int × Int × Int × Int) × (List (Int × Int × Bool)) × Int × Bool × (List (Int × Int × Bool)) × Int × Int × Int × Int) : evCut Try.prog E (oracle k10_0) false 10 Try.f10.ntmps (fun x => mem x [6]) (L10_0 n) (finF Try.prog E Try.f10.results.toList [[]] w10_0.alts) 4000 (todoAt (Try.f10.body.getD .skip) 6) (cutSt s10_0_6 (c10_0_6.enc v)) = B10_0_6 (K10_0 n) v := by kernel_rfl
theorem ok10_0 : FnOk Try.prog E 10 v10_0.enc F10_0 w10_0.enc :=
  fn_known (fn := Try.f10) (c := (Try.f10.body.getD .skip)) Try.func10 (by kernel_rfl) rfl envOk (oracle_ok k10_0) mixed v10_0 F10_0 w10_0 [] [[]] (by kernel_rfl) [6] 4000 L10_0 (by kernel_rfl)
    (List.forall_mem_cons.2 ⟨⟨_, [], s10_0_6, c10_0_6.dec, c10_0_6.enc, fun n => (K10_0 n), c10_0_6.ok, fun _ _ => rfl, fun _ => rfl, by kernel_rfl, fun n v _ h => (b10_0_6 n v).trans h⟩, fun _ h => (nomatch h)⟩) (fun v _ h => ⟨fuel10_0 v, (e10_0 _ v).trans h⟩) (fun _ => by kernel_rfl) (fun _ => by kernel_rfl) (fun _ _ => by kernel_rfl)
/- chicane/chicanelaw44.plain -/
abbrev A12_0 : Type := Int × Int × Int × Int
abbrev R12_0 : Type := Int × Int × Int × Int
def v12_0 : Pk G (Int × Int × Int × Int) := (Pk.fst (pk (Sh.fst (Sh.cons (Sh.agg (Sh.cons (Sh.int .i64) (Sh.cons (Sh.int .i64) (Sh.cons (Sh.int .i64) (Sh.fst (Sh.cons (Sh.int .i64) Sh.nil)))))) Sh.nil)) Sh.hnil))
def w12_0 : Wk G (Int × Int × Int × Int) := (Wk.one [(.agg [.keep, .keep, .keep, .keep])] (Pk.fst (pk (Sh.fst (Sh.cons (Sh.agg (Sh.cons (Sh.int .i64) (Sh.cons (Sh.int .i64) (Sh.cons (Sh.int .i64) (Sh.fst (Sh.cons (Sh.int .i64) Sh.nil)))))) Sh.nil)) Sh.hnil)))
def F12_0 (v : Int × Int × Int × Int) : Option (Int × Int × Int × Int) :=
  some (v)

noncomputable def k12_0 : List (Known Try.prog E) := []
noncomputable def L12_0 (n id : Nat) (st : St G) : Option (Int × Int × Int × Int) := none
set_option maxRecDepth 100000 in
theorem e12_0 (n : Nat) (v : Int × Int × Int × Int) : ev Try.prog E (oracle k12_0) Try.f12.ntmps (fun x => mem x []) (L12_0 n) (finF Try.prog E Try.f12.results.toList [[]] w12_0.alts) 4000 [.code (Try.f12.body.getD .skip)] (argSt (v12_0.enc v)) = F12_0 v := by kernel_rfl
theorem ok12_0 : FnOk Try.prog E 12 v12_0.enc F12_0 w12_0.enc :=
  fn_known (fn := Try.f12) (c := (Try.f12.body.getD .skip)) Try.func12 (by kernel_rfl) rfl envOk (oracle_ok k12_0) mixed v12_0 F12_0 w12_0 [] [[]] (by kernel_rfl) [] 4000 L12_0 (by kernel_rfl)
    (fun _ h => nomatch h) (fun v _ h => ⟨0, (e12_0 _ v).trans h⟩) (fun _ => by kernel_rfl) (fun _ => by kernel_rfl) (fun _ _ => by kernel_rfl)
/- chicane/chicaneref44.May -/
abbrev A32_0 : Type := Int × Int × Int × Int
abbrev R32_0 : Type := Bool
def v32_0 : Pk G (Int × Int × Int × Int) := (Pk.fst (pk (Sh.fst (Sh.cons (Sh.agg (Sh.cons (Sh.int .i64) (Sh.cons (Sh.int .i64) (Sh.cons (Sh.int .i64) (Sh.fst (Sh.cons (Sh.int .i64) Sh.nil)))))) Sh.nil)) Sh.hnil))
def w32_0 : Wk G Bool := (Wk.one [.keep] (Pk.fst (pk (Sh.fst (Sh.cons Sh.bool Sh.nil)) Sh.hnil)))
def F32_0 (v : Int × Int × Int × Int) : Option Bool :=
  bif (decide (v.1 ≥ (0 : Int))) then
    bif (decide (v.1 ≤ (1125899906842624 : Int))) then
      bif (decide (v.2.1 ≥ (0 : Int))) then
        bif (decide (v.2.1 ≤ (1125899906842624 : Int))) then
          bif (decide (v.2.2.1 ≥ (0 : Int))) then
            bif (decide (v.2.2.1 ≤ (1000 : Int))) then
              bif (decide (v.2.2.2 ≥ (0 : Int))) then
                some (decide (v.2.2.2 ≤ (1000 : Int)))
              else
                some (false)
            else
              some (false)
          else
            some (false)
        else
          some (false)
      else
        some (false)
    else
      some (false)
  else
    some (false)

noncomputable def k32_0 : List (Known Try.prog E) := []
noncomputable def L32_0 (n id : Nat) (st : St G) : Option Bool := none
set_option maxRecDepth 100000 in
theorem e32_0 (n : Nat) (v : Int × Int × Int × Int) : ev Try.prog E (oracle k32_0) Try.f32.ntmps (fun x => mem x []) (L32_0 n) (finF Try.prog E Try.f32.results.toList [[]] w32_0.alts) 4000 [.code (Try.f32.body.getD .skip)] (argSt (v32_0.enc v)) = F32_0 v := by kernel_rfl
theorem ok32_0 : FnOk Try.prog E 32 v32_0.enc F32_0 w32_0.enc :=
  fn_known (fn := Try.f32) (c := (Try.f32.body.getD .skip)) Try.func32 (by kernel_rfl) rfl envOk (oracle_ok k32_0) mixed v32_0 F32_0 w32_0 [] [[]] (by kernel_rfl) [] 4000 L32_0 (by kernel_rfl)
    (fun _ h => nomatch h) (fun v _ h => ⟨0, (e32_0 _ v).trans h⟩) (fun _ => by kernel_rfl) (fun _ => by kernel_rfl) (fun _ _ => by kernel_rfl)
/- chicane/chicaneref44.Judge -/
abbrev A11_0 : Type := (Int × Int × Int × Int) × List (Int × Int × Int × Int)
abbrev R11_0 : Type := (Bool × Int) × List (Int × Int × Bool)
def v11_0 : Pk G ((Int × Int × Int × Int) × List (Int × Int × Int × Int)) := (Pk.fst (pk (Sh.cons (Sh.agg (Sh.cons (Sh.int .i64) (Sh.cons (Sh.int .i64) (Sh.cons (Sh.int .i64) (Sh.fst (Sh.cons (Sh.int .i64) Sh.nil)))))) (Sh.fst (Sh.cons (Sh.ros 43) Sh.nil))) Sh.hnil))
def w11_0 : Wk G ((Bool × Int) × List (Int × Int × Bool)) := (Wk.one [(.own 0 39), .keep, .keep] (pk (Sh.snd (Sh.cons (Sh.osl 0) (Sh.cons Sh.bool (Sh.fst (Sh.cons (Sh.int .i64) Sh.nil))))) (Sh.fst (Sh.hrow 0 39 Sh.hnil))))
def c11_0_6 : Pk G (((List (Int × Int × Int × Int)) × Int × Int) × (List (Int × Int × Bool)) × Int × Int × Int × Int) := (pk (Sh.cons (Sh.ros 43) (Sh.snd (Sh.cons (Sh.ptr 0 0) (Sh.snd (Sh.cons (Sh.osl 1) (Sh.cons (Sh.int .i64) (Sh.fst (Sh.cons (Sh.int .i64) Sh.nil)))))))) (Sh.hrow 1 39 (Sh.fst (Sh.hfix 0 33 (Sh.cons (Sh.int .i64) (Sh.cons (Sh.int .i64) (Sh.cons (Sh.int .i64) (Sh.fst (Sh.cons (Sh.int .i64) Sh.nil))))) Sh.hnil))))
def B11_0_6 (K : ((((List (Int × Int × Int × Int)) × Int × Int) × (List (Int × Int × Bool)) × Int × Int × Int × Int) → Option ((Bool × Int) × List (Int × Int × Bool)))) (v : ((List (Int × Int × Int × Int)) × Int × Int) × (List (Int × Int × Bool)) × Int × Int × Int × Int) : Option ((Bool × Int) × List (Int × Int × Bool)) :=
  bif (decide (v.1.2.2 < ((v.1.1).length : Int))) then
    (rdx v.1.1 v.1.2.2).bind fun (x371 : Int × Int × Int × Int) =>
    bif (x371.1 == (4 : Int)) then
      (rdx v.1.1 v.1.2.2).bind fun (x372 : Int × Int × Int × Int) =>
      (chk (decide (((v.2.1).length + (([(x372.2.2.1, (v.2.2.1, false))] : List (Int × Int × Bool))).length) * 24 ≤ 140737488355328))).bind fun _ =>
      let x373 : List (Int × Int × Bool) := (v.2.1 ++ ([(x372.2.2.1, (v.2.2.1, false))] : List (Int × Int × Bool)))
      bif (decide (v.1.2.2 > (0 : Int))) then
        let x374 : Int := (IntKind.wrap .i64 (v.1.2.2 - (1 : Int)))
        (rdx v.1.1 x374).bind fun (x375 : Int × Int × Int × Int) =>
        bif (x375.1 == (4 : Int)) then
          let x376 : Int := (IntKind.wrap .i64 (v.1.2.2 - (1 : Int)))
          (rdx v.1.1 x376).bind fun (x377 : Int × Int × Int × Int) =>
          (rdx v.1.1 v.1.2.2).bind fun (x378 : Int × Int × Int × Int) =>
          bif (x377.2.2.1 == x378.2.2.1) then
            let x379 : Int := (IntKind.wrap .i64 (v.1.2.2 - (1 : Int)))
            (rdx v.1.1 x379).bind fun (x380 : Int × Int × Int × Int) =>
            (rdx v.1.1 v.1.2.2).bind fun (x381 : Int × Int × Int × Int) =>
            (rdx v.1.1 v.1.2.2).bind fun (x382 : Int × Int × Int × Int) =>
            bif (x382.1 == (5 : Int)) then
              bif (!(x380.2.1 == x381.2.1)) then
                let x383 : Int := (IntKind.wrap .i64 (v.1.2.1 + (1 : Int)))
                bif (decide (x383 > v.2.2.2.2.1)) then
                  (rdx v.1.1 v.1.2.2).bind fun (x384 : Int × Int × Int × Int) =>
                  (chk (decide (((x373).length + (([(x384.2.2.1, (v.2.2.2.1, true))] : List (Int × Int × Bool))).length) * 24 ≤ 140737488355328))).bind fun _ =>
                  let x385 : List (Int × Int × Bool) := (x373 ++ ([(x384.2.2.1, (v.2.2.2.1, true))] : List (Int × Int × Bool)))
                  bif (decide (v.2.2.2.2.2 > (0 : Int))) then
                    bif (decide (((x385).length : Int) ≥ v.2.2.2.2.2)) then
                      some ((true, (0 : Int)), x385)
                    else
                      let x386 : Int := (IntKind.wrap .i64 (v.1.2.2 + (1 : Int)))
                      K ((v.1.1, (x383, x386)), (x385, v.2.2))
                  else
                    let x387 : Int := (IntKind.wrap .i64 (v.1.2.2 + (1 : Int)))
                    K ((v.1.1, (x383, x387)), (x385, v.2.2))
                else
                  bif (decide (v.2.2.2.2.2 > (0 : Int))) then
                    bif (decide (((x373).length : Int) ≥ v.2.2.2.2.2)) then
                      some ((true, (0 : Int)), x373)
                    else
                      let x388 : Int := (IntKind.wrap .i64 (v.1.2.2 + (1 : Int)))
                      K ((v.1.1, (x383, x388)), (x373, v.2.2))
                  else
                    let x389 : Int := (IntKind.wrap .i64 (v.1.2.2 + (1 : Int)))
                    K ((v.1.1, (x383, x389)), (x373, v.2.2))
              else
                bif (decide (v.2.2.2.2.2 > (0 : Int))) then
                  bif (decide (((x373).length : Int) ≥ v.2.2.2.2.2)) then
                    some ((true, (0 : Int)), x373)
                  else
                    let x390 : Int := (IntKind.wrap .i64 (v.1.2.2 + (1 : Int)))
                    K ((v.1.1, (v.1.2.1, x390)), (x373, v.2.2))
                else
                  let x391 : Int := (IntKind.wrap .i64 (v.1.2.2 + (1 : Int)))
                  K ((v.1.1, (v.1.2.1, x391)), (x373, v.2.2))
            else
              bif (decide (v.2.2.2.2.2 > (0 : Int))) then
                bif (decide (((x373).length : Int) ≥ v.2.2.2.2.2)) then
                  some ((true, (0 : Int)), x373)
                else
                  let x392 : Int := (IntKind.wrap .i64 (v.1.2.2 + (1 : Int)))
                  K ((v.1.1, (v.1.2.1, x392)), (x373, v.2.2))
              else
                let x393 : Int := (IntKind.wrap .i64 (v.1.2.2 + (1 : Int)))
                K ((v.1.1, (v.1.2.1, x393)), (x373, v.2.2))
          else
            (rdx v.1.1 v.1.2.2).bind fun (x394 : Int × Int × Int × Int) =>
            bif (x394.1 == (5 : Int)) then
              let x395 : Int := (IntKind.wrap .i64 (v.1.2.1 + (1 : Int)))
              bif (decide (x395 > v.2.2.2.2.1)) then
                (rdx v.1.1 v.1.2.2).bind fun (x396 : Int × Int × Int × Int) =>
                (chk (decide (((x373).length + (([(x396.2.2.1, (v.2.2.2.1, true))] : List (Int × Int × Bool))).length) * 24 ≤ 140737488355328))).bind fun _ =>
                let x397 : List (Int × Int × Bool) := (x373 ++ ([(x396.2.2.1, (v.2.2.2.1, true))] : List (Int × Int × Bool)))
                bif (decide (v.2.2.2.2.2 > (0 : Int))) then
                  bif (decide (((x397).length : Int) ≥ v.2.2.2.2.2)) then
                    some ((true, (0 : Int)), x397)
                  else
                    let x398 : Int := (IntKind.wrap .i64 (v.1.2.2 + (1 : Int)))
                    K ((v.1.1, (x395, x398)), (x397, v.2.2))
                else
                  let x399 : Int := (IntKind.wrap .i64 (v.1.2.2 + (1 : Int)))
                  K ((v.1.1, (x395, x399)), (x397, v.2.2))
              else
                bif (decide (v.2.2.2.2.2 > (0 : Int))) then
                  bif (decide (((x373).length : Int) ≥ v.2.2.2.2.2)) then
                    some ((true, (0 : Int)), x373)
                  else
                    let x400 : Int := (IntKind.wrap .i64 (v.1.2.2 + (1 : Int)))
                    K ((v.1.1, (x395, x400)), (x373, v.2.2))
                else
                  let x401 : Int := (IntKind.wrap .i64 (v.1.2.2 + (1 : Int)))
                  K ((v.1.1, (x395, x401)), (x373, v.2.2))
            else
              bif (decide (v.2.2.2.2.2 > (0 : Int))) then
                bif (decide (((x373).length : Int) ≥ v.2.2.2.2.2)) then
                  some ((true, (0 : Int)), x373)
                else
                  let x402 : Int := (IntKind.wrap .i64 (v.1.2.2 + (1 : Int)))
                  K ((v.1.1, (v.1.2.1, x402)), (x373, v.2.2))
              else
                let x403 : Int := (IntKind.wrap .i64 (v.1.2.2 + (1 : Int)))
                K ((v.1.1, (v.1.2.1, x403)), (x373, v.2.2))
        else
          (rdx v.1.1 v.1.2.2).bind fun (x404 : Int × Int × Int × Int) =>
          bif (x404.1 == (5 : Int)) then
            let x405 : Int := (IntKind.wrap .i64 (v.1.2.1 + (1 : Int)))
            bif (decide (x405 > v.2.2.2.2.1)) then
              (rdx v.1.1 v.1.2.2).bind fun (x406 : Int × Int × Int × Int) =>
              (chk (decide (((x373).length + (([(x406.2.2.1, (v.2.2.2.1, true))] : List (Int × Int × Bool))).length) * 24 ≤ 140737488355328))).bind fun _ =>
              let x407 : List (Int × Int × Bool) := (x373 ++ ([(x406.2.2.1, (v.2.2.2.1, true))] : List (Int × Int × Bool)))
              bif (decide (v.2.2.2.2.2 > (0 : Int))) then
                bif (decide (((x407).length : Int) ≥ v.2.2.2.2.2)) then
                  some ((true, (0 : Int)), x407)
                else
                  let x408 : Int := (IntKind.wrap .i64 (v.1.2.2 + (1 : Int)))
                  K ((v.1.1, (x405, x408)), (x407, v.2.2))
              else
                let x409 : Int := (IntKind.wrap .i64 (v.1.2.2 + (1 : Int)))
                K ((v.1.1, (x405, x409)), (x407, v.2.2))
            else
              bif (decide (v.2.2.2.2.2 > (0 : Int))) then
                bif (decide (((x373).length : Int) ≥ v.2.2.2.2.2)) then
                  some ((true, (0 : Int)), x373)
                else
                  let x410 : Int := (IntKind.wrap .i64 (v.1.2.2 + (1 : Int)))
                  K ((v.1.1, (x405, x410)), (x373, v.2.2))
              else
                let x411 : Int := (IntKind.wrap .i64 (v.1.2.2 + (1 : Int)))
                K ((v.1.1, (x405, x411)), (x373, v.2.2))
          else
            bif (decide (v.2.2.2.2.2 > (0 : Int))) then
              bif (decide (((x373).length : Int) ≥ v.2.2.2.2.2)) then
                some ((true, (0 : Int)), x373)
              else
                let x412 : Int := (IntKind.wrap .i64 (v.1.2.2 + (1 : Int)))
                K ((v.1.1, (v.1.2.1, x412)), (x373, v.2.2))
            else
              let x413 : Int := (IntKind.wrap .i64 (v.1.2.2 + (1 : Int)))
              K ((v.1.1, (v.1.2.1, x413)), (x373, v.2.2))
      else
        (rdx v.1.1 v.1.2.2).bind fun (x414 : Int × Int × Int × Int) =>
        bif (x414.1 == (5 : Int)) then
          let x415 : Int := (IntKind.wrap .i64 (v.1.2.1 + (1 : Int)))
          bif (decide (x415 > v.2.2.2.2.1)) then
            (rdx v.1.1 v.1.2.2).bind fun (x416 : Int × Int × Int × Int) =>
            (chk (decide (((x373).length + (([(x416.2.2.1, (v.2.2.2.1, true))] : List (Int × Int × Bool))).length) * 24 ≤ 140737488355328))).bind fun _ =>
            let x417 : List (Int × Int × Bool) := (x373 ++ ([(x416.2.2.1, (v.2.2.2.1, true))] : List (Int × Int × Bool)))
            bif (decide (v.2.2.2.2.2 > (0 : Int))) then
              bif (decide (((x417).length : Int) ≥ v.2.2.2.2.2)) then
                some ((true, (0 : Int)), x417)
              else
                let x418 : Int := (IntKind.wrap .i64 (v.1.2.2 + (1 : Int)))
                K ((v.1.1, (x415, x418)), (x417, v.2.2))
            else
              let x419 : Int := (IntKind.wrap .i64 (v.1.2.2 + (1 : Int)))
              K ((v.1.1, (x415, x419)), (x417, v.2.2))
          else
            bif (decide (v.2.2.2.2.2 > (0 : Int))) then
              bif (decide (((x373).length : Int) ≥ v.2.2.2.2.2)) then
                some ((true, (0 : Int)), x373)
              else
                let x420 : Int := (IntKind.wrap .i64 (v.1.2.2 + (1 : Int)))
                K ((v.1.1, (x415, x420)), (x373, v.2.2))
            else
              let x421 : Int := (IntKind.wrap .i64 (v.1.2.2 + (1 : Int)))
              K ((v.1.1, (x415, x421)), (x373, v.2.2))
        else
          bif (decide (v.2.2.2.2.2 > (0 : Int))) then
            bif (decide (((x373).length : Int) ≥ v.2.2.2.2.2)) then
              some ((true, (0 : Int)), x373)
            else
              let x422 : Int := (IntKind.wrap .i64 (v.1.2.2 + (1 : Int)))
              K ((v.1.1, (v.1.2.1, x422)), (x373, v.2.2))
          else
            let x423 : Int := (IntKind.wrap .i64 (v.1.2.2 + (1 : Int)))
            K ((v.1.1, (v.1.2.1, x423)), (x373, v.2.2))
    else
      bif (decide (v.1.2.2 > (0 : Int))) then
        let x424 : Int := (IntKind.wrap .i64 (v.1.2.2 - (1 : Int)))
        (rdx v.1.1 x424).bind fun (x425 : Int × Int × Int × Int) =>
        bif (x425.1 == (4 : Int)) then
          let x426 : Int := (IntKind.wrap .i64 (v.1.2.2 - (1 : Int)))
          (rdx v.1.1 x426).bind fun (x427 : Int × Int × Int × Int) =>
          (rdx v.1.1 v.1.2.2).bind fun (x428 : Int × Int × Int × Int) =>
          bif (x427.2.2.1 == x428.2.2.1) then
            let x429 : Int := (IntKind.wrap .i64 (v.1.2.2 - (1 : Int)))
            (rdx v.1.1 x429).bind fun (x430 : Int × Int × Int × Int) =>
            (rdx v.1.1 v.1.2.2).bind fun (x431 : Int × Int × Int × Int) =>
            (rdx v.1.1 v.1.2.2).bind fun (x432 : Int × Int × Int × Int) =>
            bif (x432.1 == (5 : Int)) then
              bif (!(x430.2.1 == x431.2.1)) then
                let x433 : Int := (IntKind.wrap .i64 (v.1.2.1 + (1 : Int)))
                bif (decide (x433 > v.2.2.2.2.1)) then
                  (rdx v.1.1 v.1.2.2).bind fun (x434 : Int × Int × Int × Int) =>
                  (chk (decide (((v.2.1).length + (([(x434.2.2.1, (v.2.2.2.1, true))] : List (Int × Int × Bool))).length) * 24 ≤ 140737488355328))).bind fun _ =>
                  let x435 : List (Int × Int × Bool) := (v.2.1 ++ ([(x434.2.2.1, (v.2.2.2.1, true))] : List (Int × Int × Bool)))
                  bif (decide (v.2.2.2.2.2 > (0 : Int))) then
                    bif (decide (((x435).length : Int) ≥ v.2.2.2.2.2)) then
                      some ((true, (0 : Int)), x435)
                    else
                      let x436 : Int := (IntKind.wrap .i64 (v.1.2.2 + (1 : Int)))
                      K ((v.1.1, (x433, x436)), (x435, v.2.2))
                  else
                    let x437 : Int := (IntKind.wrap .i64 (v.1.2.2 + (1 : Int)))
                    K ((v.1.1, (x433, x437)), (x435, v.2.2))
                else
                  bif (decide (v.2.2.2.2.2 > (0 : Int))) then
                    bif (decide (((v.2.1).length : Int) ≥ v.2.2.2.2.2)) then
                      some ((true, (0 : Int)), v.2.1)
                    else
                      let x438 : Int := (IntKind.wrap .i64 (v.1.2.2 + (1 : Int)))
                      K ((v.1.1, (x433, x438)), v.2)
                  else
                    let x439 : Int := (IntKind.wrap .i64 (v.1.2.2 + (1 : Int)))
                    K ((v.1.1, (x433, x439)), v.2)
              else
                bif (decide (v.2.2.2.2.2 > (0 : Int))) then
                  bif (decide (((v.2.1).length : Int) ≥ v.2.2.2.2.2)) then
                    some ((true, (0 : Int)), v.2.1)
                  else
                    let x440 : Int := (IntKind.wrap .i64 (v.1.2.2 + (1 : Int)))
                    K ((v.1.1, (v.1.2.1, x440)), v.2)
                else
                  let x441 : Int := (IntKind.wrap .i64 (v.1.2.2 + (1 : Int)))
                  K ((v.1.1, (v.1.2.1, x441)), v.2)
            else
              bif (decide (v.2.2.2.2.2 > (0 : Int))) then
                bif (decide (((v.2.1).length : Int) ≥ v.2.2.2.2.2)) then
                  some ((true, (0 : Int)), v.2.1)
                else
                  let x442 : Int := (IntKind.wrap .i64 (v.1.2.2 + (1 : Int)))
                  K ((v.1.1, (v.1.2.1, x442)), v.2)
              else
                let x443 : Int := (IntKind.wrap .i64 (v.1.2.2 + (1 : Int)))
                K ((v.1.1, (v.1.2.1, x443)), v.2)
          else
            (rdx v.1.1 v.1.2.2).bind fun (x444 : Int × Int × Int × Int) =>
            bif (x444.1 == (5 : Int)) then
              let x445 : Int := (IntKind.wrap .i64 (v.1.2.1 + (1 : Int)))
              bif (decide (x445 > v.2.2.2.2.1)) then
                (rdx v.1.1 v.1.2.2).bind fun (x446 : Int × Int × Int × Int) =>
                (chk (decide (((v.2.1).length + (([(x446.2.2.1, (v.2.2.2.1, true))] : List (Int × Int × Bool))).length) * 24 ≤ 140737488355328))).bind fun _ =>
                let x447 : List (Int × Int × Bool) := (v.2.1 ++ ([(x446.2.2.1, (v.2.2.2.1, true))] : List (Int × Int × Bool)))
                bif (decide (v.2.2.2.2.2 > (0 : Int))) then
                  bif (decide (((x447).length : Int) ≥ v.2.2.2.2.2)) then
                    some ((true, (0 : Int)), x447)
                  else
                    let x448 : Int := (IntKind.wrap .i64 (v.1.2.2 + (1 : Int)))
                    K ((v.1.1, (x445, x448)), (x447, v.2.2))
                else
                  let x449 : Int := (IntKind.wrap .i64 (v.1.2.2 + (1 : Int)))
                  K ((v.1.1, (x445, x449)), (x447, v.2.2))
              else
                bif (decide (v.2.2.2.2.2 > (0 : Int))) then
                  bif (decide (((v.2.1).length : Int) ≥ v.2.2.2.2.2)) then
                    some ((true, (0 : Int)), v.2.1)
                  else
                    let x450 : Int := (IntKind.wrap .i64 (v.1.2.2 + (1 : Int)))
                    K ((v.1.1, (x445, x450)), v.2)
                else
                  let x451 : Int := (IntKind.wrap .i64 (v.1.2.2 + (1 : Int)))
                  K ((v.1.1, (x445, x451)), v.2)
            else
              bif (decide (v.2.2.2.2.2 > (0 : Int))) then
                bif (decide (((v.2.1).length : Int) ≥ v.2.2.2.2.2)) then
                  some ((true, (0 : Int)), v.2.1)
                else
                  let x452 : Int := (IntKind.wrap .i64 (v.1.2.2 + (1 : Int)))
                  K ((v.1.1, (v.1.2.1, x452)), v.2)
              else
                let x453 : Int := (IntKind.wrap .i64 (v.1.2.2 + (1 : Int)))
                K ((v.1.1, (v.1.2.1, x453)), v.2)
        else
          (rdx v.1.1 v.1.2.2).bind fun (x454 : Int × Int × Int × Int) =>
          bif (x454.1 == (5 : Int)) then
            let x455 : Int := (IntKind.wrap .i64 (v.1.2.1 + (1 : Int)))
            bif (decide (x455 > v.2.2.2.2.1)) then
              (rdx v.1.1 v.1.2.2).bind fun (x456 : Int × Int × Int × Int) =>
              (chk (decide (((v.2.1).length + (([(x456.2.2.1, (v.2.2.2.1, true))] : List (Int × Int × Bool))).length) * 24 ≤ 140737488355328))).bind fun _ =>
              let x457 : List (Int × Int × Bool) := (v.2.1 ++ ([(x456.2.2.1, (v.2.2.2.1, true))] : List (Int × Int × Bool)))
              bif (decide (v.2.2.2.2.2 > (0 : Int))) then
                bif (decide (((x457).length : Int) ≥ v.2.2.2.2.2)) then
                  some ((true, (0 : Int)), x457)
                else
                  let x458 : Int := (IntKind.wrap .i64 (v.1.2.2 + (1 : Int)))
                  K ((v.1.1, (x455, x458)), (x457, v.2.2))
              else
                let x459 : Int := (IntKind.wrap .i64 (v.1.2.2 + (1 : Int)))
                K ((v.1.1, (x455, x459)), (x457, v.2.2))
            else
              bif (decide (v.2.2.2.2.2 > (0 : Int))) then
                bif (decide (((v.2.1).length : Int) ≥ v.2.2.2.2.2)) then
                  some ((true, (0 : Int)), v.2.1)
                else
                  let x460 : Int := (IntKind.wrap .i64 (v.1.2.2 + (1 : Int)))
                  K ((v.1.1, (x455, x460)), v.2)
              else
                let x461 : Int := (IntKind.wrap .i64 (v.1.2.2 + (1 : Int)))
                K ((v.1.1, (x455, x461)), v.2)
          else
            bif (decide (v.2.2.2.2.2 > (0 : Int))) then
              bif (decide (((v.2.1).length : Int) ≥ v.2.2.2.2.2)) then
                some ((true, (0 : Int)), v.2.1)
              else
                let x462 : Int := (IntKind.wrap .i64 (v.1.2.2 + (1 : Int)))
                K ((v.1.1, (v.1.2.1, x462)), v.2)
            else
              let x463 : Int := (IntKind.wrap .i64 (v.1.2.2 + (1 : Int)))
              K ((v.1.1, (v.1.2.1, x463)), v.2)
      else
        (rdx v.1.1 v.1.2.2).bind fun (x464 : Int × Int × Int × Int) =>
        bif (x464.1 == (5 : Int)) then
          let x465 : Int := (IntKind.wrap .i64 (v.1.2.1 + (1 : Int)))
          bif (decide (x465 > v.2.2.2.2.1)) then
            (rdx v.1.1 v.1.2.2).bind fun (x466 : Int × Int × Int × Int) =>
            (chk (decide (((v.2.1).length + (([(x466.2.2.1, (v.2.2.2.1, true))] : List (Int × Int × Bool))).length) * 24 ≤ 140737488355328))).bind fun _ =>
            let x467 : List (Int × Int × Bool) := (v.2.1 ++ ([(x466.2.2.1, (v.2.2.2.1, true))] : List (Int × Int × Bool)))
            bif (decide (v.2.2.2.2.2 > (0 : Int))) then
              bif (decide (((x467).length : Int) ≥ v.2.2.2.2.2)) then
                some ((true, (0 : Int)), x467)
              else
                let x468 : Int := (IntKind.wrap .i64 (v.1.2.2 + (1 : Int)))
                K ((v.1.1, (x465, x468)), (x467, v.2.2))
            else
              let x469 : Int := (IntKind.wrap .i64 (v.1.2.2 + (1 : Int)))
              K ((v.1.1, (x465, x469)), (x467, v.2.2))
          else
            bif (decide (v.2.2.2.2.2 > (0 : Int))) then
              bif (decide (((v.2.1).length : Int) ≥ v.2.2.2.2.2)) then
                some ((true, (0 : Int)), v.2.1)
              else
                let x470 : Int := (IntKind.wrap .i64 (v.1.2.2 + (1 : Int)))
                K ((v.1.1, (x465, x470)), v.2)
            else
              let x471 : Int := (IntKind.wrap .i64 (v.1.2.2 + (1 : Int)))
              K ((v.1.1, (x465, x471)), v.2)
        else
          bif (decide (v.2.2.2.2.2 > (0 : Int))) then
            bif (decide (((v.2.1).length : Int) ≥ v.2.2.2.2.2)) then
              some ((true, (0 : Int)), v.2.1)
            else
              let x472 : Int := (IntKind.wrap .i64 (v.1.2.2 + (1 : Int)))
              K ((v.1.1, (v.1.2.1, x472)), v.2)
          else
            let x473 : Int := (IntKind.wrap .i64 (v.1.2.2 + (1 : Int)))
            K ((v.1.1, (v.1.2.1, x473)), v.2)
  else
    some ((false, (0 : Int)), v.2.1)

def E11_0 (K : ((((List (Int × Int × Int × Int)) × Int × Int) × (List (Int × Int × Bool)) × Int × Int × Int × Int) → Option ((Bool × Int) × List (Int × Int × Bool)))) (v : (Int × Int × Int × Int) × List (Int × Int × Int × Int)) : Option ((Bool × Int) × List (Int × Int × Bool)) :=
  (F32_0 v.1).bind fun r370 =>
  bif (!r370) then
    some ((false, (40 : Int)), ([] : List (Int × Int × Bool)))
  else
    K ((v.2, ((0 : Int), (0 : Int))), (([] : List (Int × Int × Bool)), v.1))

def K11_0 : Nat → ((((List (Int × Int × Int × Int)) × Int × Int) × (List (Int × Int × Bool)) × Int × Int × Int × Int) → Option ((Bool × Int) × List (Int × Int × Bool)))
  | 0 => (fun _ => none)
  | n + 1 => (B11_0_6 (K11_0 n))
def fuel11_0 (v : (Int × Int × Int × Int) × List (Int × Int × Int × Int)) : Nat := 1000
def F11_0 (v : (Int × Int × Int × Int) × List (Int × Int × Int × Int)) : Option ((Bool × Int) × List (Int × Int × Bool)) := E11_0 (K11_0 (fuel11_0 v)) v
noncomputable def k11_0 : List (Known Try.prog E) := [Known.of envOk [9] [(.agg [.keep, .keep, .keep, .keep])] v32_0 F32_0 w32_0 ok32_0]
def s11_0_6 : List (Nat × Pat) := [(1, (.ros 43)), (2, (.ptr 0 0 33 [.keep, .keep, .keep, .keep])), (7, (.own 1 39)), (8, .keep), (9, .keep)]
noncomputable def L11_0 (n id : Nat) (st : St G) : Option ((Bool × Int) × List (Int × Int × Bool)) := match Nat.beq id 6 with | true => cutK Try.prog s11_0_6 [] c11_0_6.dec (K11_0 n) st | false => none
set_option maxRecDepth 100000 in
theorem e11_0 (n : Nat) (v : (Int × Int × Int × Int) × List (Int × Int × Int × Int)) : ev Try.prog E (oracle k11_0) Try.f11.ntmps (fun x => mem x [6]) (L11_0 n) (finF Try.prog E Try.f11.results.toList [[]] w11_0.alts) 4000 [.code (Try.f11.body.getD .skip)] (argSt (v11_0.enc v)) = E11_0 (K11_0 n) v := by kernel_rfl
set_option maxRecDepth 100000 in
theorem b11_0_6 (n : Nat) (v : ((List (Int × Int × Int × Int)) × Int × Int) × (List (Int × Int × Bool)) × Int × Int × Int × Int) : evCut Try.prog E (oracle k11_0) false 11 Try.f11.ntmps (fun x => mem x [6]) (L11_0 n) (finF Try.prog E Try.f11.results.toList [[]] w11_0.alts) 4000 (todoAt (Try.f11.body.getD .skip) 6) (cutSt s11_0_6 (c11_0_6.enc v)) = B11_0_6 (K11_0 n) v := by kernel_rfl
theorem ok11_0 : FnOk Try.prog E 11 v11_0.enc F11_0 w11_0.enc :=
  fn_known (fn := Try.f11) (c := (Try.f11.body.getD .skip)) Try.func11 (by kernel_rfl) rfl envOk (oracle_ok k11_0) mixed v11_0 F11_0 w11_0 [] [[]] (by kernel_rfl) [6] 4000 L11_0 (by kernel_rfl)
    (List.forall_mem_cons.2 ⟨⟨_, [], s11_0_6, c11_0_6.dec, c11_0_6.enc, fun n => (K11_0 n), c11_0_6.ok, fun _ _ => rfl, fun _ => rfl, by kernel_rfl, fun n v _ h => (b11_0_6 n v).trans h⟩, fun _ h => (nomatch h)⟩) (fun v _ h => ⟨fuel11_0 v, (e11_0 _ v).trans h⟩) (fun _ => by kernel_rfl) (fun _ => by kernel_rfl) (fun _ _ => by kernel_rfl)
/- chicane/steward.Add -/
abbrev A13_0 : Type := List (Int × Int × Bool)
abbrev R13_0 : Type := Int
def v13_0 : Pk G (List (Int × Int × Bool)) := (Pk.fst (pk (Sh.fst (Sh.cons (Sh.ros 38) Sh.nil)) Sh.hnil))
def w13_0 : Wk G Int := (Wk.one [.keep] (Pk.fst (pk (Sh.fst (Sh.cons (Sh.int .i64) Sh.nil)) Sh.hnil)))
def c13_0_3 : Pk G (Int × (List (Int × Int × Bool)) × Int × Int) := (Pk.fst (pk (Sh.cons (Sh.int .i64) (Sh.cons (Sh.ros 38) (Sh.cons (Sh.int .i64) (Sh.fst (Sh.cons (Sh.int .i64) Sh.nil))))) Sh.hnil))
def B13_0_3 (K : ((Int × (List (Int × Int × Bool)) × Int × Int) → Option Int)) (v : Int × (List (Int × Int × Bool)) × Int × Int) : Option Int :=
  bif (decide (v.2.2.2 < v.2.2.1)) then
    (rdx v.2.1 v.2.2.2).bind fun (x483 : Int × Int × Bool) =>
    let x484 : Int := (IntKind.wrap .i64 (v.1 + x483.2.1))
    let x485 : Int := (IntKind.wrap .i64 (v.2.2.2 + (1 : Int)))
    K (x484, (v.2.1, (v.2.2.1, x485)))
  else
    some (v.1)

def E13_0 (K : ((Int × (List (Int × Int × Bool)) × Int × Int) → Option Int)) (v : List (Int × Int × Bool)) : Option Int :=
  K ((0 : Int), (v, (((v).length : Int), (0 : Int))))

def K13_0 : Nat → ((Int × (List (Int × Int × Bool)) × Int × Int) → Option Int)
  | 0 => (fun _ => none)
  | n + 1 => (B13_0_3 (K13_0 n))
def fuel13_0 (v : List (Int × Int × Bool)) : Nat := 1000
def F13_0 (v : List (Int × Int × Bool)) : Option Int := E13_0 (K13_0 (fuel13_0 v)) v
noncomputable def k13_0 : List (Known Try.prog E) := []
def s13_0_3 : List (Nat × Pat) := [(3, .keep), (6, (.ros 38)), (7, .keep), (8, .keep)]
noncomputable def L13_0 (n id : Nat) (st : St G) : Option Int := match Nat.beq id 3 with | true => cutK Try.prog s13_0_3 [] c13_0_3.dec (K13_0 n) st | false => none
set_option maxRecDepth 100000 in
theorem e13_0 (n : Nat) (v : List (Int × Int × Bool)) : ev Try.prog E (oracle k13_0) Try.f13.ntmps (fun x => mem x [3]) (L13_0 n) (finF Try.prog E Try.f13.results.toList [[]] w13_0.alts) 4000 [.code (Try.f13.body.getD .skip)] (argSt (v13_0.enc v)) = E13_0 (K13_0 n) v := by kernel_rfl
set_option maxRecDepth 100000 in
theorem b13_0_3 (n : Nat) (v : Int × (List (Int × Int × Bool)) × Int × Int) : evCut Try.prog E (oracle k13_0) false 13 Try.f13.ntmps (fun x => mem x [3]) (L13_0 n) (finF Try.prog E Try.f13.results.toList [[]] w13_0.alts) 4000 (todoAt (Try.f13.body.getD .skip) 3) (cutSt s13_0_3 (c13_0_3.enc v)) = B13_0_3 (K13_0 n) v := by kernel_rfl
theorem ok13_0 : FnOk Try.prog E 13 v13_0.enc F13_0 w13_0.enc :=
  fn_known (fn := Try.f13) (c := (Try.f13.body.getD .skip)) Try.func13 (by kernel_rfl) rfl envOk (oracle_ok k13_0) mixed v13_0 F13_0 w13_0 [] [[]] (by kernel_rfl) [3] 4000 L13_0 (by kernel_rfl)
    (List.forall_mem_cons.2 ⟨⟨_, [], s13_0_3, c13_0_3.dec, c13_0_3.enc, fun n => (K13_0 n), c13_0_3.ok, fun _ _ => rfl, fun _ => rfl, by kernel_rfl, fun n v _ h => (b13_0_3 n v).trans h⟩, fun _ h => (nomatch h)⟩) (fun v _ h => ⟨fuel13_0 v, (e13_0 _ v).trans h⟩) (fun _ => by kernel_rfl) (fun _ => by kernel_rfl) (fun _ _ => by kernel_rfl)
/- chicane/chicaneref44.Add -/
abbrev A14_0 : Type := List (Int × Int × Bool)
abbrev R14_0 : Type := Int
def v14_0 : Pk G (List (Int × Int × Bool)) := (Pk.fst (pk (Sh.fst (Sh.cons (Sh.ros 39) Sh.nil)) Sh.hnil))
def w14_0 : Wk G Int := (Wk.one [.keep] (Pk.fst (pk (Sh.fst (Sh.cons (Sh.int .i64) Sh.nil)) Sh.hnil)))
def c14_0_3 : Pk G ((List (Int × Int × Bool)) × Int × Int) := (Pk.fst (pk (Sh.cons (Sh.ros 39) (Sh.cons (Sh.int .i64) (Sh.fst (Sh.cons (Sh.int .i64) Sh.nil)))) Sh.hnil))
def B14_0_3 (K : (((List (Int × Int × Bool)) × Int × Int) → Option Int)) (v : (List (Int × Int × Bool)) × Int × Int) : Option Int :=
  bif (decide (v.2.2 < ((v.1).length : Int))) then
    (rdx v.1 v.2.2).bind fun (x495 : Int × Int × Bool) =>
    let x496 : Int := (IntKind.wrap .i64 (v.2.1 + x495.2.1))
    let x497 : Int := (IntKind.wrap .i64 (v.2.2 + (1 : Int)))
    K (v.1, (x496, x497))
  else
    some (v.2.1)

def E14_0 (K : (((List (Int × Int × Bool)) × Int × Int) → Option Int)) (v : List (Int × Int × Bool)) : Option Int :=
  K (v, ((0 : Int), (0 : Int)))

def K14_0 : Nat → (((List (Int × Int × Bool)) × Int × Int) → Option Int)
  | 0 => (fun _ => none)
  | n + 1 => (B14_0_3 (K14_0 n))
def fuel14_0 (v : List (Int × Int × Bool)) : Nat := 1000
def F14_0 (v : List (Int × Int × Bool)) : Option Int := E14_0 (K14_0 (fuel14_0 v)) v
noncomputable def k14_0 : List (Known Try.prog E) := []
def s14_0_3 : List (Nat × Pat) := [(0, (.ros 39)), (3, .keep), (4, .keep)]
noncomputable def L14_0 (n id : Nat) (st : St G) : Option Int := match Nat.beq id 3 with | true => cutK Try.prog s14_0_3 [] c14_0_3.dec (K14_0 n) st | false => none
set_option maxRecDepth 100000 in
theorem e14_0 (n : Nat) (v : List (Int × Int × Bool)) : ev Try.prog E (oracle k14_0) Try.f14.ntmps (fun x => mem x [3]) (L14_0 n) (finF Try.prog E Try.f14.results.toList [[]] w14_0.alts) 4000 [.code (Try.f14.body.getD .skip)] (argSt (v14_0.enc v)) = E14_0 (K14_0 n) v := by kernel_rfl
set_option maxRecDepth 100000 in
theorem b14_0_3 (n : Nat) (v : (List (Int × Int × Bool)) × Int × Int) : evCut Try.prog E (oracle k14_0) false 14 Try.f14.ntmps (fun x => mem x [3]) (L14_0 n) (finF Try.prog E Try.f14.results.toList [[]] w14_0.alts) 4000 (todoAt (Try.f14.body.getD .skip) 3) (cutSt s14_0_3 (c14_0_3.enc v)) = B14_0_3 (K14_0 n) v := by kernel_rfl
theorem ok14_0 : FnOk Try.prog E 14 v14_0.enc F14_0 w14_0.enc :=
  fn_known (fn := Try.f14) (c := (Try.f14.body.getD .skip)) Try.func14 (by kernel_rfl) rfl envOk (oracle_ok k14_0) mixed v14_0 F14_0 w14_0 [] [[]] (by kernel_rfl) [3] 4000 L14_0 (by kernel_rfl)
    (List.forall_mem_cons.2 ⟨⟨_, [], s14_0_3, c14_0_3.dec, c14_0_3.enc, fun n => (K14_0 n), c14_0_3.ok, fun _ _ => rfl, fun _ => rfl, by kernel_rfl, fun n v _ h => (b14_0_3 n v).trans h⟩, fun _ h => (nomatch h)⟩) (fun v _ h => ⟨fuel14_0 v, (e14_0 _ v).trans h⟩) (fun _ => by kernel_rfl) (fun _ => by kernel_rfl) (fun _ _ => by kernel_rfl)
/- chicane/chicanelaw44.awake -/
abbrev A15_0 : Type := Unit
abbrev R15_0 : Type := Bool
def v15_0 : Pk G Unit := (Pk.snd (pk Sh.nil Sh.hnil))
def w15_0 : Wk G Bool := (Wk.one [.keep] (Pk.fst (pk (Sh.fst (Sh.cons Sh.bool Sh.nil)) Sh.hnil)))
def F15_0 (v : Unit) : Option Bool :=
  (F10_0 (((5 : Int), ((0 : Int), ((0 : Int), (2 : Int)))), ([((4 : Int), ((0 : Int), ((1 : Int), (0 : Int)))), ((5 : Int), ((0 : Int), ((1 : Int), (0 : Int)))), ((4 : Int), ((0 : Int), ((9 : Int), (0 : Int)))), ((4 : Int), ((0 : Int), ((12 : Int), (0 : Int))))] : List (Int × Int × Int × Int)))).bind fun r519 =>
  (F10_0 (((-1 : Int), ((0 : Int), ((0 : Int), (0 : Int)))), ([] : List (Int × Int × Int × Int)))).bind fun r520 =>
  bif (((r519.2).length : Int) == (2 : Int)) then
    bif r519.1.1 then
      bif (r519.1.2 == (0 : Int)) then
        (F13_0 r519.2).bind fun r521 =>
        bif (r521 == (10 : Int)) then
          some (r520.1.2 == (40 : Int))
        else
          some (false)
      else
        some (false)
    else
      some (false)
  else
    some (false)

noncomputable def k15_0 : List (Known Try.prog E) := [Known.of envOk [9, 7] [(.agg [.keep, .keep, .keep, .keep]), (.ros 43)] v10_0 F10_0 w10_0 ok10_0, Known.of envOk [7] [(.ros 38)] v13_0 F13_0 w13_0 ok13_0]
noncomputable def L15_0 (n id : Nat) (st : St G) : Option Bool := none
set_option maxRecDepth 100000 in
theorem e15_0 (n : Nat) (v : Unit) : ev Try.prog E (oracle k15_0) Try.f15.ntmps (fun x => mem x []) (L15_0 n) (finF Try.prog E Try.f15.results.toList [[]] w15_0.alts) 4000 [.code (Try.f15.body.getD .skip)] (argSt (v15_0.enc v)) = F15_0 v := by kernel_rfl
theorem ok15_0 : FnOk Try.prog E 15 v15_0.enc F15_0 w15_0.enc :=
  fn_known (fn := Try.f15) (c := (Try.f15.body.getD .skip)) Try.func15 (by kernel_rfl) rfl envOk (oracle_ok k15_0) mixed v15_0 F15_0 w15_0 [] [[]] (by kernel_rfl) [] 4000 L15_0 (by kernel_rfl)
    (fun _ h => nomatch h) (fun v _ h => ⟨0, (e15_0 _ v).trans h⟩) (fun _ => by kernel_rfl) (fun _ => by kernel_rfl) (fun _ _ => by kernel_rfl)
/- chicane/chicanelaw44.StewardJudges -/
abbrev A3_0 : Type := (Int × Int × Int × Int) × List (Int × Int × Int × Int)
abbrev R3_0 : Type := Bool
def v3_0 : Pk G ((Int × Int × Int × Int) × List (Int × Int × Int × Int)) := (Pk.fst (pk (Sh.cons (Sh.agg (Sh.cons (Sh.int .i64) (Sh.cons (Sh.int .i64) (Sh.cons (Sh.int .i64) (Sh.fst (Sh.cons (Sh.int .i64) Sh.nil)))))) (Sh.fst (Sh.cons (Sh.ros 43) Sh.nil))) Sh.hnil))
def w3_0 : Wk G Bool := (Wk.one [.keep] (Pk.fst (pk (Sh.fst (Sh.cons Sh.bool Sh.nil)) Sh.hnil)))
def c3_0_8 : Pk G (Int × (List (Int × Int × Bool)) × List (Int × Int × Bool)) := (pk (Sh.snd (Sh.cons (Sh.osl 0) (Sh.snd (Sh.cons (Sh.osl 1) (Sh.fst (Sh.cons (Sh.int .i64) Sh.nil)))))) (Sh.hrow 1 39 (Sh.fst (Sh.hrow 0 38 Sh.hnil))))
def B3_0_8 (K : ((Int × (List (Int × Int × Bool)) × List (Int × Int × Bool)) → Option Bool)) (v : Int × (List (Int × Int × Bool)) × List (Int × Int × Bool)) : Option Bool :=
  bif (decide (v.1 < ((v.2.2).length : Int))) then
    (idx v.1 (v.2.2).length).bind fun (x548 : Nat) =>
    ((v.2.2)[x548]?).bind fun (x549 : Int × Int × Bool) =>
    (idx v.1 (v.2.1).length).bind fun (x550 : Nat) =>
    ((v.2.1)[x550]?).bind fun (x551 : Int × Int × Bool) =>
    bif (x549.1 != x551.1) then
      some (false)
    else
      (idx v.1 (v.2.2).length).bind fun (x552 : Nat) =>
      ((v.2.2)[x552]?).bind fun (x553 : Int × Int × Bool) =>
      (idx v.1 (v.2.1).length).bind fun (x554 : Nat) =>
      ((v.2.1)[x554]?).bind fun (x555 : Int × Int × Bool) =>
      bif (x553.2.1 != x555.2.1) then
        some (false)
      else
        (idx v.1 (v.2.2).length).bind fun (x556 : Nat) =>
        ((v.2.2)[x556]?).bind fun (x557 : Int × Int × Bool) =>
        (idx v.1 (v.2.1).length).bind fun (x558 : Nat) =>
        ((v.2.1)[x558]?).bind fun (x559 : Int × Int × Bool) =>
        bif (!(x557.2.2 == x559.2.2)) then
          some (false)
        else
          let x560 : Int := (IntKind.wrap .i64 (v.1 + (1 : Int)))
          K (x560, v.2)
  else
    (F15_0 ()).bind fun r561 =>
    some (r561)

def E3_0 (K : ((Int × (List (Int × Int × Bool)) × List (Int × Int × Bool)) → Option Bool)) (v : (Int × Int × Int × Int) × List (Int × Int × Int × Int)) : Option Bool :=
  bif (decide (((v.2).length : Int) > (300 : Int))) then
    some (true)
  else
    (F10_0 v).bind fun r543 =>
    (F12_0 v.1).bind fun r544 =>
    (F11_0 (r544, v.2)).bind fun r545 =>
    bif (((r543.2).length : Int) != ((r545.2).length : Int)) then
      some (false)
    else
      bif (!(r543.1.1 == r545.1.1)) then
        some (false)
      else
        bif (r543.1.2 != r545.1.2) then
          some (false)
        else
          (F13_0 r543.2).bind fun r546 =>
          (F14_0 r545.2).bind fun r547 =>
          bif (r546 != r547) then
            some (false)
          else
            K ((0 : Int), (r545.2, r543.2))

def K3_0 : Nat → ((Int × (List (Int × Int × Bool)) × List (Int × Int × Bool)) → Option Bool)
  | 0 => (fun _ => none)
  | n + 1 => (B3_0_8 (K3_0 n))
def fuel3_0 (v : (Int × Int × Int × Int) × List (Int × Int × Int × Int)) : Nat := 1000
def F3_0 (v : (Int × Int × Int × Int) × List (Int × Int × Int × Int)) : Option Bool := E3_0 (K3_0 (fuel3_0 v)) v
noncomputable def k3_0 : List (Known Try.prog E) := [Known.of envOk [9, 7] [(.agg [.keep, .keep, .keep, .keep]), (.ros 43)] v10_0 F10_0 w10_0 ok10_0, Known.of envOk [9] [(.agg [.keep, .keep, .keep, .keep])] v12_0 F12_0 w12_0 ok12_0, Known.of envOk [9, 7] [(.agg [.keep, .keep, .keep, .keep]), (.ros 43)] v11_0 F11_0 w11_0 ok11_0, Known.of envOk [7] [(.ros 38)] v13_0 F13_0 w13_0 ok13_0, Known.of envOk [7] [(.ros 39)] v14_0 F14_0 w14_0 ok14_0, Known.of envOk [] [] v15_0 F15_0 w15_0 ok15_0]
def s3_0_8 : List (Nat × Pat) := [(5, (.own 0 38)), (8, (.own 1 39)), (11, .keep)]
noncomputable def L3_0 (n id : Nat) (st : St G) : Option Bool := match Nat.beq id 8 with | true => cutK Try.prog s3_0_8 [] c3_0_8.dec (K3_0 n) st | false => none
set_option maxRecDepth 100000 in
theorem e3_0 (n : Nat) (v : (Int × Int × Int × Int) × List (Int × Int × Int × Int)) : ev Try.prog E (oracle k3_0) Try.f3.ntmps (fun x => mem x [8]) (L3_0 n) (finF Try.prog E Try.f3.results.toList [[]] w3_0.alts) 4000 [.code (Try.f3.body.getD .skip)] (argSt (v3_0.enc v)) = E3_0 (K3_0 n) v := by kernel_rfl
set_option maxRecDepth 100000 in
theorem b3_0_8 (n : Nat) (v : Int × (List (Int × Int × Bool)) × List (Int × Int × Bool)) : evCut Try.prog E (oracle k3_0) false 3 Try.f3.ntmps (fun x => mem x [8]) (L3_0 n) (finF Try.prog E Try.f3.results.toList [[]] w3_0.alts) 4000 (todoAt (Try.f3.body.getD .skip) 8) (cutSt s3_0_8 (c3_0_8.enc v)) = B3_0_8 (K3_0 n) v := by kernel_rfl
theorem ok3_0 : FnOk Try.prog E 3 v3_0.enc F3_0 w3_0.enc :=
  fn_known (fn := Try.f3) (c := (Try.f3.body.getD .skip)) Try.func3 (by kernel_rfl) rfl envOk (oracle_ok k3_0) mixed v3_0 F3_0 w3_0 [] [[]] (by kernel_rfl) [8] 4000 L3_0 (by kernel_rfl)
    (List.forall_mem_cons.2 ⟨⟨_, [], s3_0_8, c3_0_8.dec, c3_0_8.enc, fun n => (K3_0 n), c3_0_8.ok, fun _ _ => rfl, fun _ => rfl, by kernel_rfl, fun n v _ h => (b3_0_8 n v).trans h⟩, fun _ h => (nomatch h)⟩) (fun v _ h => ⟨fuel3_0 v, (e3_0 _ v).trans h⟩) (fun _ => by kernel_rfl) (fun _ => by kernel_rfl) (fun _ _ => by kernel_rfl)
/- chicane/chicanelaw44.StewardMore -/
abbrev A4_0 : Type := (Int × Int × Int × Int) × (List (Int × Int × Int × Int)) × Int
abbrev R4_0 : Type := Bool
def v4_0 : Pk G ((Int × Int × Int × Int) × (List (Int × Int × Int × Int)) × Int) := (Pk.fst (pk (Sh.cons (Sh.agg (Sh.cons (Sh.int .i64) (Sh.cons (Sh.int .i64) (Sh.cons (Sh.int .i64) (Sh.fst (Sh.cons (Sh.int .i64) Sh.nil)))))) (Sh.cons (Sh.ros 43) (Sh.fst (Sh.cons (Sh.int .i64) Sh.nil)))) Sh.hnil))
def w4_0 : Wk G Bool := (Wk.one [.keep] (Pk.fst (pk (Sh.fst (Sh.cons Sh.bool Sh.nil)) Sh.hnil)))
def c4_0_8 : Pk G (((List (Int × Int × Int × Int)) × Int) × (List (Int × Int × Bool)) × List (Int × Int × Bool)) := (pk (Sh.cons (Sh.ros 43) (Sh.snd (Sh.cons (Sh.osl 0) (Sh.snd (Sh.cons (Sh.osl 1) (Sh.fst (Sh.cons (Sh.int .i64) Sh.nil))))))) (Sh.hrow 1 38 (Sh.fst (Sh.hrow 0 38 Sh.hnil))))
def c4_0_14 : Pk G (((List (Int × Int × Int × Int)) × Bool × Int) × List (Int × Int × Bool)) := (pk (Sh.cons (Sh.ros 43) (Sh.snd (Sh.cons (Sh.osl 0) (Sh.cons Sh.bool (Sh.fst (Sh.cons (Sh.int .i64) Sh.nil)))))) (Sh.fst (Sh.hrow 0 38 Sh.hnil)))
def B4_0_8 (K : ((((List (Int × Int × Int × Int)) × Int) × (List (Int × Int × Bool)) × List (Int × Int × Bool)) → Option Bool) × ((((List (Int × Int × Int × Int)) × Bool × Int) × List (Int × Int × Bool)) → Option Bool)) (v : ((List (Int × Int × Int × Int)) × Int) × (List (Int × Int × Bool)) × List (Int × Int × Bool)) : Option Bool :=
  bif (decide (v.1.2 < ((v.2.2).length : Int))) then
    (idx v.1.2 (v.2.2).length).bind fun (x630 : Nat) =>
    ((v.2.2)[x630]?).bind fun (x631 : Int × Int × Bool) =>
    (idx v.1.2 (v.2.1).length).bind fun (x632 : Nat) =>
    ((v.2.1)[x632]?).bind fun (x633 : Int × Int × Bool) =>
    let x634 : Bool := ((x631.1 == x633.1) && ((x631.2.1 == x633.2.1) && ((x631.2.2 == x633.2.2) && true)))
    bif (!x634) then
      some (false)
    else
      let x635 : Int := (IntKind.wrap .i64 (v.1.2 + (1 : Int)))
      K.1 ((v.1.1, x635), v.2)
  else
    K.2 ((v.1.1, (false, (0 : Int))), v.2.1)

def B4_0_14 (K : ((((List (Int × Int × Int × Int)) × Int) × (List (Int × Int × Bool)) × List (Int × Int × Bool)) → Option Bool) × ((((List (Int × Int × Int × Int)) × Bool × Int) × List (Int × Int × Bool)) → Option Bool)) (v : ((List (Int × Int × Int × Int)) × Bool × Int) × List (Int × Int × Bool)) : Option Bool :=
  bif (decide (v.1.2.2 < ((v.1.1).length : Int))) then
    bif v.1.2.1 then
      let x636 : Int := (IntKind.wrap .i64 (v.1.2.2 + (1 : Int)))
      K.2 ((v.1.1, (true, x636)), v.2)
    else
      (rdx v.1.1 v.1.2.2).bind fun (x637 : Int × Int × Int × Int) =>
      bif (x637.1 == (4 : Int)) then
        let x638 : Int := (IntKind.wrap .i64 (v.1.2.2 + (1 : Int)))
        K.2 ((v.1.1, (true, x638)), v.2)
      else
        (rdx v.1.1 v.1.2.2).bind fun (x639 : Int × Int × Int × Int) =>
        let x640 : Int := (IntKind.wrap .i64 (v.1.2.2 + (1 : Int)))
        K.2 ((v.1.1, ((x639.1 == (5 : Int)), x640)), v.2)
  else
    bif v.1.2.1 then
      (F15_0 ()).bind fun r641 =>
      some (r641)
    else
      bif (((v.2).length : Int) == (0 : Int)) then
        (F15_0 ()).bind fun r642 =>
        some (r642)
      else
        some (false)

def E4_0 (K : ((((List (Int × Int × Int × Int)) × Int) × (List (Int × Int × Bool)) × List (Int × Int × Bool)) → Option Bool) × ((((List (Int × Int × Int × Int)) × Bool × Int) × List (Int × Int × Bool)) → Option Bool)) (v : (Int × Int × Int × Int) × (List (Int × Int × Int × Int)) × Int) : Option Bool :=
  bif (decide (((v.2.1).length : Int) > (300 : Int))) then
    some (true)
  else
    bif (decide (v.2.2 < (0 : Int))) then
      some (true)
    else
      bif (decide (v.2.2 > ((v.2.1).length : Int))) then
        some (true)
      else
        (cutx v.2.1 (0 : Int) v.2.2).bind fun (x627 : List (Int × Int × Int × Int)) =>
        (F10_0 (v.1, x627)).bind fun r628 =>
        (F10_0 (v.1, v.2.1)).bind fun r629 =>
        bif (r628.1.2 != r629.1.2) then
          some (false)
        else
          bif (decide (((r628.2).length : Int) > ((r629.2).length : Int))) then
            some (false)
          else
            bif r628.1.1 then
              bif (!r629.1.1) then
                some (false)
              else
                bif (((r628.2).length : Int) != ((r629.2).length : Int)) then
                  some (false)
                else
                  bif (decide (v.1.2.2.2 > (0 : Int))) then
                    bif (decide (((r629.2).length : Int) > v.1.2.2.2)) then
                      some (false)
                    else
                      K.1 ((v.2.1, (0 : Int)), (r629.2, r628.2))
                  else
                    K.1 ((v.2.1, (0 : Int)), (r629.2, r628.2))
            else
              bif (decide (v.1.2.2.2 > (0 : Int))) then
                bif (decide (((r629.2).length : Int) > v.1.2.2.2)) then
                  some (false)
                else
                  K.1 ((v.2.1, (0 : Int)), (r629.2, r628.2))
              else
                K.1 ((v.2.1, (0 : Int)), (r629.2, r628.2))

def K4_0 : Nat → ((((List (Int × Int × Int × Int)) × Int) × (List (Int × Int × Bool)) × List (Int × Int × Bool)) → Option Bool) × ((((List (Int × Int × Int × Int)) × Bool × Int) × List (Int × Int × Bool)) → Option Bool)
  | 0 => (fun _ => none, fun _ => none)
  | n + 1 => (B4_0_8 (K4_0 n), B4_0_14 (K4_0 n))
def fuel4_0 (v : (Int × Int × Int × Int) × (List (Int × Int × Int × Int)) × Int) : Nat := 1000
def F4_0 (v : (Int × Int × Int × Int) × (List (Int × Int × Int × Int)) × Int) : Option Bool := E4_0 (K4_0 (fuel4_0 v)) v
noncomputable def k4_0 : List (Known Try.prog E) := [Known.of envOk [9, 7] [(.agg [.keep, .keep, .keep, .keep]), (.ros 43)] v10_0 F10_0 w10_0 ok10_0, Known.of envOk [] [] v15_0 F15_0 w15_0 ok15_0]
def s4_0_14 : List (Nat × Pat) := [(1, (.ros 43)), (10, (.own 0 38)), (14, .keep), (15, .keep)]
def s4_0_8 : List (Nat × Pat) := [(1, (.ros 43)), (7, (.own 0 38)), (10, (.own 1 38)), (13, .keep)]
noncomputable def L4_0 (n id : Nat) (st : St G) : Option Bool := match Nat.beq id 8 with | true => cutK Try.prog s4_0_8 [] c4_0_8.dec (K4_0 n).1 st | false => match Nat.beq id 14 with | true => cutK Try.prog s4_0_14 [] c4_0_14.dec (K4_0 n).2 st | false => none
set_option maxRecDepth 100000 in
theorem e4_0 (n : Nat) (v : (Int × Int × Int × Int) × (List (Int × Int × Int × Int)) × Int) : ev Try.prog E (oracle k4_0) Try.f4.ntmps (fun x => mem x [8, 14]) (L4_0 n) (finF Try.prog E Try.f4.results.toList [[]] w4_0.alts) 4000 [.code (Try.f4.body.getD .skip)] (argSt (v4_0.enc v)) = E4_0 (K4_0 n) v := by kernel_rfl
set_option maxRecDepth 100000 in
theorem b4_0_8 (n : Nat) (v : ((List (Int × Int × Int × Int)) × Int) × (List (Int × Int × Bool)) × List (Int × Int × Bool)) : evCut Try.prog E (oracle k4_0) false 4 Try.f4.ntmps (fun x => mem x [8, 14]) (L4_0 n) (finF Try.prog E Try.f4.results.toList [[]] w4_0.alts) 4000 (todoAt (Try.f4.body.getD .skip) 8) (cutSt s4_0_8 (c4_0_8.enc v)) = B4_0_8 (K4_0 n) v := by kernel_rfl
set_option maxRecDepth 100000 in
theorem b4_0_14 (n : Nat) (v : ((List (Int × Int × Int × Int)) × Bool × Int) × List (Int × Int × Bool)) : evCut Try.prog E (oracle k4_0) false 4 Try.f4.ntmps (fun x => mem x [8, 14]) (L4_0 n) (finF Try.prog E Try.f4.results.toList [[]] w4_0.alts) 4000 (todoAt (Try.f4.body.getD .skip) 14) (cutSt s4_0_14 (c4_0_14.enc v)) = B4_0_14 (K4_0 n) v := by kernel_rfl
theorem ok4_0 : FnOk Try.prog E 4 v4_0.enc F4_0 w4_0.enc :=
  fn_known (fn := Try.f4) (c := (Try.f4.body.getD .skip)) Try.func4 (by kernel_rfl) rfl envOk (oracle_ok k4_0) mixed v4_0 F4_0 w4_0 [] [[]] (by kernel_rfl) [8, 14] 4000 L4_0 (by kernel_rfl)
    (List.forall_mem_cons.2 ⟨⟨_, [], s4_0_8, c4_0_8.dec, c4_0_8.enc, fun n => (K4_0 n).1, c4_0_8.ok, fun _ _ => rfl, fun _ => rfl, by kernel_rfl, fun n v _ h => (b4_0_8 n v).trans h⟩, List.forall_mem_cons.2 ⟨⟨_, [], s4_0_14, c4_0_14.dec, c4_0_14.enc, fun n => (K4_0 n).2, c4_0_14.ok, fun _ _ => rfl, fun _ => rfl, by kernel_rfl, fun n v _ h => (b4_0_14 n v).trans h⟩, fun _ h => (nomatch h)⟩⟩) (fun v _ h => ⟨fuel4_0 v, (e4_0 _ v).trans h⟩) (fun _ => by kernel_rfl) (fun _ => by kernel_rfl) (fun _ _ => by kernel_rfl)
def Dom3_0 (v : (Int × Int × Int × Int) × List (Int × Int × Int × Int)) : Prop := ((Lit.int .i64 v.1.1).wf = true ∧ (Lit.int .i64 v.1.2.1).wf = true ∧ (Lit.int .i64 v.1.2.2.1).wf = true ∧ (Lit.int .i64 v.1.2.2.2).wf = true) ∧ (((v.2).length ≤ maxLen ∧ ∀ x ∈ v.2, (Lit.int .i64 x.1).wf = true ∧ (Lit.int .i64 x.2.1).wf = true ∧ (Lit.int .i64 x.2.2.1).wf = true ∧ (Lit.int .i64 x.2.2.2).wf = true))
def Dom4_0 (v : (Int × Int × Int × Int) × (List (Int × Int × Int × Int)) × Int) : Prop := ((Lit.int .i64 v.1.1).wf = true ∧ (Lit.int .i64 v.1.2.1).wf = true ∧ (Lit.int .i64 v.1.2.2.1).wf = true ∧ (Lit.int .i64 v.1.2.2.2).wf = true) ∧ (((v.2.1).length ≤ maxLen ∧ ∀ x ∈ v.2.1, (Lit.int .i64 x.1).wf = true ∧ (Lit.int .i64 x.2.1).wf = true ∧ (Lit.int .i64 x.2.2.1).wf = true ∧ (Lit.int .i64 x.2.2.2).wf = true)) ∧ (Lit.int .i64 v.2.2).wf = true
end Go.Proofs.Ythlnocpbdhcnlaa.Ev
