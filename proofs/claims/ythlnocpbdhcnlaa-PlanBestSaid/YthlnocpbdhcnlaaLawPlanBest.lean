/- PlanBest: for every input the statement is true. -/
import Derived.Test.YthlnocpbdhcnlaaRows
import Derived.Test.YthlnocpbdhcnlaaEvW
import Derived.Test.YthlnocpbdhcnlaaMPlanBest2
import Derived.WalkKit
import Derived.ProofKit
import Derived.OpenShut
import Derived.ShutString
import Derived.ChangeOld
import Derived.Below
import Derived.SizedLaws
set_option linter.unusedVariables false
set_option linter.unusedSimpArgs false
namespace Go.Proofs.Ythlnocpbdhcnlaa.Ev
open Go Go.RowKit
theorem encDec3 (x : Int) : E.dec 3 (E.enc 3 x) = some x := rfl
theorem encDec22 (x : Int) : E.dec 22 (E.enc 22 x) = some x := rfl
theorem encDec80 (x : Int × Int × Int) : E.dec 80 (E.enc 80 x) = some x := rfl
theorem fact3 (x : Int) (hh : ∃ m, Shaped Try.prog E m 3 (E.enc 3 x)) : (Lit.int .i64 x).wf = true := by
  obtain ⟨m, h⟩ := hh
  generalize hx : E.enc 3 x = cs0 at h
  obtain ⟨n1, rfl, w2⟩ := shaped_int Try.underlying3 h
  have hi : x = n1 := Option.some.inj ((encDec3 x).symm.trans ((congrArg (E.dec 3) hx).trans (by rfl)))
  rw [hi]
  exact w2
theorem fact22 (x : Int) (hh : ∃ m, Shaped Try.prog E m 22 (E.enc 22 x)) : (Lit.int .i64 x).wf = true := by
  obtain ⟨m, h⟩ := hh
  generalize hx : E.enc 22 x = cs0 at h
  obtain ⟨n1, rfl, w2⟩ := shaped_int Try.underlying22 h
  have hi : x = n1 := Option.some.inj ((encDec22 x).symm.trans ((congrArg (E.dec 22) hx).trans (by rfl)))
  rw [hi]
  exact w2
theorem fact80 (x : Int × Int × Int) (hh : ∃ m, Shaped Try.prog E m 80 (E.enc 80 x)) : (Lit.int .i64 x.1).wf = true ∧ (Lit.int .i64 x.2.1).wf = true ∧ (Lit.int .i64 x.2.2).wf = true := by
  obtain ⟨m, h⟩ := hh
  generalize hx : E.enc 80 x = cs0 at h
  obtain ⟨m1, p2, rfl, l3⟩ := shaped_struct Try.underlying80 h
  obtain ⟨p4, p5, rfl, s6, l7⟩ := shapedL_cons (t := 22) (ts := [3, 3]) l3
  obtain ⟨p8, p9, rfl, s10, l11⟩ := shapedL_cons (t := 3) (ts := [3]) l7
  obtain ⟨p12, p13, rfl, s14, l15⟩ := shapedL_cons (t := 3) (ts := []) l11
  obtain rfl := shapedL_nil l15
  obtain ⟨n16, rfl, w17⟩ := shaped_int Try.underlying22 s6
  obtain ⟨n18, rfl, w19⟩ := shaped_int Try.underlying3 s10
  obtain ⟨n20, rfl, w21⟩ := shaped_int Try.underlying3 s14
  have hi : x = (n16, (n18, n20)) := Option.some.inj ((encDec80 x).symm.trans ((congrArg (E.dec 80) hx).trans (by rfl)))
  rw [hi]
  exact ⟨w17, w19, w21⟩
theorem comp : ∀ n e cs0, e ∈ [3, 22, 80] → Shaped Try.prog E n e cs0 → ∃ x, E.enc e x = cs0 := by
  intro n e cs0 he h
  simp only [List.mem_cons, List.not_mem_nil, or_false] at he
  rcases he with rfl | rfl | rfl
  · obtain ⟨n1, rfl, w2⟩ := shaped_int Try.underlying3 h
    exact ⟨(n1 : Int), rfl⟩
  · obtain ⟨n1, rfl, w2⟩ := shaped_int Try.underlying22 h
    exact ⟨(n1 : Int), rfl⟩
  · obtain ⟨m1, p2, rfl, l3⟩ := shaped_struct Try.underlying80 h
    obtain ⟨p4, p5, rfl, s6, l7⟩ := shapedL_cons (t := 22) (ts := [3, 3]) l3
    obtain ⟨p8, p9, rfl, s10, l11⟩ := shapedL_cons (t := 3) (ts := [3]) l7
    obtain ⟨p12, p13, rfl, s14, l15⟩ := shapedL_cons (t := 3) (ts := []) l11
    obtain rfl := shapedL_nil l15
    obtain ⟨n16, rfl, w17⟩ := shaped_int Try.underlying22 s6
    obtain ⟨n18, rfl, w19⟩ := shaped_int Try.underlying3 s10
    obtain ⟨n20, rfl, w21⟩ := shaped_int Try.underlying3 s14
    exact ⟨((n16, (n18, n20)) : Int × Int × Int), rfl⟩
end Go.Proofs.Ythlnocpbdhcnlaa.Ev
namespace Go.Proofs.Ythlnocpbdhcnlaa.planBest
open Go Ev
open Go.ChangeShapes Go.WideShapes Go.ChangeAt Go.RowKit
theorem own : ownKnob Try.prog.godebug = none := by kernel_rfl
theorem laidOut : laidOutB Try.prog = true := by kernel_rfl
set_option maxRecDepth 100000 in
theorem lifted (os : Os) (started : os.Started) (H : Type) (enc : TypeId × Value → H) :
    ReturnsInHanded {} Try.checked os 6 .any (Rows.planBestSpec.pre6 enc Try.prog Try.f6 Rows.planBestRow.domain false) (Rows.planBestSpec.post enc Try.prog Try.f6 false true false false) := by
  refine returnsInHanded_of_change_sized (C := Try.checked) own started (by kernel_rfl) Try.func6
    (ChangeSpec.witness6 (enc := enc) (C := Try.checked) false ⟨#[], #[.agg #[.int .i64 0, .int .i64 0, .slice none 0 0, .int .i64 0, .int .i64 0, .int .i64 0]], []⟩ 8 (by kernel_rfl) (by kernel_rfl) (by kernel_rfl) (by kernel_rfl)) ?_
  intro W base args ds gs before hval0 hW hcnd hsz0 _
  have hval : ∀ (j : Nat) t v, Try.f6.params[j]? = some t → args[j]? = some v → Value.okWide Try.prog W .any base t v := hval0
  have hW' := hW
  obtain ⟨p, q, hA0, hV, rfl, hfz, hnd⟩ := hW
  have hA : DataW.TrodAll enc Try.prog W 0 (fun _ => true) true Try.f6.params.toList args.toList ds p := hA0
  rw [Try.params6] at hA hval
  obtain ⟨v0, vs0, d0, ds0, p0, q0, hargs, rfl, rfl, h0, r0⟩ := trodAll_cons hA
  obtain ⟨rfl, rfl, rfl⟩ := trodAll_nil r0
  obtain rfl : args = #[v0] := by cases args; simp_all
  obtain ⟨rfl, rfl⟩ := trodVars_none hV
  have k0 := h0
  have lt0 : ∀ x ∈ p0, x.block < W.heap.size := by obtain ⟨m, hm⟩ := k0; exact DataW.trod_lt m _ _ _ hm
  obtain ⟨t0, as0, sh0, re0⟩ := arg_agg envOk comp (by kernel_rfl) (by kernel_rfl) (hval 0 47 v0 rfl rfl) h0
  obtain ⟨m101, p102, rfl, l103⟩ := shaped_struct Try.underlying47 sh0
  obtain ⟨p104, p105, rfl, s106, l107⟩ := shapedL_cons (t := 3) (ts := [22, 45, 22, 22, 3]) l103
  obtain ⟨p108, p109, rfl, s110, l111⟩ := shapedL_cons (t := 22) (ts := [45, 22, 22, 3]) l107
  obtain ⟨p112, p113, rfl, s114, l115⟩ := shapedL_cons (t := 45) (ts := [22, 22, 3]) l111
  obtain ⟨p116, p117, rfl, s118, l119⟩ := shapedL_cons (t := 22) (ts := [22, 3]) l115
  obtain ⟨p120, p121, rfl, s122, l123⟩ := shapedL_cons (t := 22) (ts := [3]) l119
  obtain ⟨p124, p125, rfl, s126, l127⟩ := shapedL_cons (t := 3) (ts := []) l123
  obtain rfl := shapedL_nil l127
  obtain ⟨n128, rfl, w129⟩ := shaped_int Try.underlying3 s106
  obtain ⟨n130, rfl, w131⟩ := shaped_int Try.underlying22 s110
  obtain ⟨n132, rfl, w133, f134⟩ := shaped_slice Try.underlying45 s114
  obtain ⟨n135, rfl, w136⟩ := shaped_int Try.underlying22 s118
  obtain ⟨n137, rfl, w138⟩ := shaped_int Try.underlying22 s122
  obtain ⟨n139, rfl, w140⟩ := shaped_int Try.underlying3 s126
  clear hA0 hval0 hsz0
  refine (law_ok (vals := [v0]) (v := (n128, (n130, (n132, (n135, (n137, n139)))))) Try.func6 (by kernel_rfl) rfl ok6_0 (fun _ => rfl) rfl (law6_0 _ ⟨w129, w131, ⟨w133, fun x hx => fact22 x (f134 x hx)⟩, w136, w138, w140⟩) (fun c hc => Reps.cons (re0 c hc) (Reps.nil _))).mono fun e W' ⟨he, bel⟩ => ?_
  subst he
  exact ⟨_, rfl, _, _, _, [], _, [], hW', trodAll_mk1 (shut_bool Try.underlying4 _), (trodAll_cons_mk (Below.trod laidOut (by kernel_rfl) (of_decide_eq_true (by kernel_rfl)) k0 bel lt0) trodAll_mk0), rfl, bel.frame _, fun h => by cases h⟩
theorem over : Rows.planBestRow.holds Try.pinned (OpenSpec.ofChange Rows.planBestSpec) :=
  OpenClaim.holds_of_wide 6 Try.f6 rfl rfl rfl rfl rfl rfl rfl ⟨rfl, rfl, rfl, rfl, rfl⟩ rfl rfl rfl rfl rfl (by kernel_rfl) Try.func6 (by kernel_rfl)
    (of_decide_eq_true (by kernel_rfl)) (by unfold Func.isWrapper; first | (rw [if_pos (by decide +kernel)]; kernel_rfl) | (rw [if_neg (by decide +kernel)]; exact ⟨rfl, rfl⟩))
    (fun os started H enc _ => lifted os started H enc)
end Go.Proofs.Ythlnocpbdhcnlaa.planBest
namespace Go.Proofs.Ythlnocpbdhcnlaa
/-- PlanBest: for every input the statement is true; the input reads behind as it did. -/
theorem planBest_holds : Rows.PlanBestSaid := planBest.over
#print axioms planBest_holds
end Go.Proofs.Ythlnocpbdhcnlaa
