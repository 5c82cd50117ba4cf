/- ProfileLimits: for every input the statement is true. -/
import Derived.Test.YtbmbnopgekbppaaRows
import Derived.Test.YtbmbnopgekbppaaEvW
import Derived.Test.YtbmbnopgekbppaaMProfSteps
import Derived.WalkKit
import Derived.ProofKit
import Derived.OpenShut
import Derived.ShutString
import Derived.ChangeOld
import Derived.Below
import Derived.SizedLaws
set_option linter.unusedVariables false
set_option linter.unusedSimpArgs false
namespace Go.Proofs.Ytbmbnopgekbppaa.Ev
open Go Go.RowKit
theorem encDec22 (x : Int) : E.dec 22 (E.enc 22 x) = some x := rfl
theorem encDec24 (x : Int × Int) : E.dec 24 (E.enc 24 x) = some x := rfl
theorem fact22 (x : Int) (hh : ∃ m, Shaped Try.prog E m 22 (E.enc 22 x)) : (Lit.int .i64 x).wf = true := by
  obtain ⟨m, h⟩ := hh
  generalize hx : E.enc 22 x = cs0 at h
  obtain ⟨n1, rfl, w2⟩ := shaped_int Try.underlying22 h
  have hi : x = n1 := Option.some.inj ((encDec22 x).symm.trans ((congrArg (E.dec 22) hx).trans (by rfl)))
  rw [hi]
  exact w2
theorem fact24 (x : Int × Int) (hh : ∃ m, Shaped Try.prog E m 24 (E.enc 24 x)) : (Lit.int .i64 x.1).wf = true ∧ (Lit.int .i64 x.2).wf = true := by
  obtain ⟨m, h⟩ := hh
  generalize hx : E.enc 24 x = cs0 at h
  obtain ⟨m1, p2, rfl, l3⟩ := shaped_struct Try.underlying24 h
  obtain ⟨p4, p5, rfl, s6, l7⟩ := shapedL_cons (t := 22) (ts := [22]) l3
  obtain ⟨p8, p9, rfl, s10, l11⟩ := shapedL_cons (t := 22) (ts := []) l7
  obtain rfl := shapedL_nil l11
  obtain ⟨n12, rfl, w13⟩ := shaped_int Try.underlying22 s6
  obtain ⟨n14, rfl, w15⟩ := shaped_int Try.underlying22 s10
  have hi : x = (n12, n14) := Option.some.inj ((encDec24 x).symm.trans ((congrArg (E.dec 24) hx).trans (by rfl)))
  rw [hi]
  exact ⟨w13, w15⟩
theorem comp : ∀ n e cs0, e ∈ [22, 24] → Shaped Try.prog E n e cs0 → ∃ x, E.enc e x = cs0 := by
  intro n e cs0 he h
  simp only [List.mem_cons, List.not_mem_nil, or_false] at he
  rcases he with rfl | rfl
  · obtain ⟨n1, rfl, w2⟩ := shaped_int Try.underlying22 h
    exact ⟨(n1 : Int), rfl⟩
  · obtain ⟨m1, p2, rfl, l3⟩ := shaped_struct Try.underlying24 h
    obtain ⟨p4, p5, rfl, s6, l7⟩ := shapedL_cons (t := 22) (ts := [22]) l3
    obtain ⟨p8, p9, rfl, s10, l11⟩ := shapedL_cons (t := 22) (ts := []) l7
    obtain rfl := shapedL_nil l11
    obtain ⟨n12, rfl, w13⟩ := shaped_int Try.underlying22 s6
    obtain ⟨n14, rfl, w15⟩ := shaped_int Try.underlying22 s10
    exact ⟨((n12, n14) : Int × Int), rfl⟩
end Go.Proofs.Ytbmbnopgekbppaa.Ev
namespace Go.Proofs.Ytbmbnopgekbppaa.profileLimits
open Go Ev
open Go.ChangeShapes Go.WideShapes Go.ChangeAt Go.RowKit
theorem own : ownKnob Try.prog.godebug = none := by kernel_rfl
theorem laidOut : laidOutB Try.prog = true := by kernel_rfl
set_option maxRecDepth 100000 in
theorem lifted (os : Os) (started : os.Started) (H : Type) (enc : TypeId × Value → H) :
    ReturnsInHanded {} Try.checked os 6 .any (Rows.profileLimitsSpec.pre6 enc Try.prog Try.f6 Rows.profileLimitsRow.domain false) (Rows.profileLimitsSpec.post enc Try.prog Try.f6 false true false false) := by
  refine returnsInHanded_of_change_sized (C := Try.checked) own started (by kernel_rfl) Try.func6
    (ChangeSpec.witness6 (enc := enc) (C := Try.checked) false ⟨#[], #[.slice none 0 0, .agg #[.int .i64 0, .int .i64 0, .int .i64 0, .int .i64 0]], []⟩ 8 (by kernel_rfl) (by kernel_rfl) (by kernel_rfl) (by kernel_rfl)) ?_
  intro W base args ds gs before hval0 hW hcnd hsz0 _
  have hval : ∀ (j : Nat) t v, Try.f6.params[j]? = some t → args[j]? = some v → Value.okWide Try.prog W .any base t v := hval0
  have hW' := hW
  obtain ⟨p, q, hA0, hV, rfl, hfz, hnd⟩ := hW
  have hA : DataW.TrodAll enc Try.prog W 0 (fun _ => true) true Try.f6.params.toList args.toList ds p := hA0
  rw [Try.params6] at hA hval
  obtain ⟨v0, vs0, d0, ds0, p0, q0, hargs, rfl, rfl, h0, r0⟩ := trodAll_cons hA
  obtain ⟨v1, vs1, d1, ds1, p1, q1, rfl, rfl, rfl, h1, r1⟩ := trodAll_cons r0
  obtain ⟨rfl, rfl, rfl⟩ := trodAll_nil r1
  obtain rfl : args = #[v0, v1] := by cases args; simp_all
  obtain ⟨rfl, rfl⟩ := trodVars_none hV
  have k0 := h0
  have lt0 : ∀ x ∈ p0, x.block < W.heap.size := by obtain ⟨m, hm⟩ := k0; exact DataW.trod_lt m _ _ _ hm
  have ce0 : v0.cells = #[v0] := by obtain ⟨a, l, c, rfl⟩ := okWide_slice Try.underlying38 (hval 0 38 v0 rfl rfl); rfl
  obtain ⟨t0, a0, sh0, re0⟩ := arg_one envOk comp (by kernel_rfl) ce0 h0
  obtain ⟨n101, e0, w102, f103⟩ := shaped_slice Try.underlying38 sh0
  obtain rfl := (List.cons.inj e0).1
  have k1 := h1
  have lt1 : ∀ x ∈ p1, x.block < W.heap.size := by obtain ⟨m, hm⟩ := k1; exact DataW.trod_lt m _ _ _ hm
  obtain ⟨t1, as1, sh1, re1⟩ := arg_agg envOk comp (by kernel_rfl) (by kernel_rfl) (hval 1 40 v1 rfl rfl) h1
  obtain ⟨m1101, p1102, rfl, l1103⟩ := shaped_struct Try.underlying40 sh1
  obtain ⟨p1104, p1105, rfl, s1106, l1107⟩ := shapedL_cons (t := 22) (ts := [22, 22, 22]) l1103
  obtain ⟨p1108, p1109, rfl, s1110, l1111⟩ := shapedL_cons (t := 22) (ts := [22, 22]) l1107
  obtain ⟨p1112, p1113, rfl, s1114, l1115⟩ := shapedL_cons (t := 22) (ts := [22]) l1111
  obtain ⟨p1116, p1117, rfl, s1118, l1119⟩ := shapedL_cons (t := 22) (ts := []) l1115
  obtain rfl := shapedL_nil l1119
  obtain ⟨n1120, rfl, w1121⟩ := shaped_int Try.underlying22 s1106
  obtain ⟨n1122, rfl, w1123⟩ := shaped_int Try.underlying22 s1110
  obtain ⟨n1124, rfl, w1125⟩ := shaped_int Try.underlying22 s1114
  obtain ⟨n1126, rfl, w1127⟩ := shaped_int Try.underlying22 s1118
  clear hA0 hval0 hsz0
  refine (law_ok (vals := [v0, v1]) (v := (n101, (n1120, (n1122, (n1124, n1126))))) Try.func6 (by kernel_rfl) rfl ok6_0 (fun _ => rfl) rfl (law6_0 _ ⟨⟨w102, fun x hx => fact24 x (f103 x hx)⟩, ⟨w1121, w1123, w1125, w1127⟩⟩) (fun c hc => Reps.cons (re0 c hc) (Reps.cons (re1 c hc) (Reps.nil _)))).mono fun e W' ⟨he, bel⟩ => ?_
  subst he
  exact ⟨_, rfl, _, _, _, [], _, [], hW', trodAll_mk1 (shut_bool Try.underlying4 _), (trodAll_cons_mk (Below.trod laidOut (by kernel_rfl) (of_decide_eq_true (by kernel_rfl)) k0 bel lt0) (trodAll_cons_mk (Below.trod laidOut (by kernel_rfl) (of_decide_eq_true (by kernel_rfl)) k1 bel lt1) trodAll_mk0)), rfl, bel.frame _, fun h => by cases h⟩
theorem over : Rows.profileLimitsRow.holds Try.pinned (OpenSpec.ofChange Rows.profileLimitsSpec) :=
  OpenClaim.holds_of_wide 6 Try.f6 rfl rfl rfl rfl rfl rfl rfl ⟨rfl, rfl, rfl, rfl, rfl⟩ rfl rfl rfl rfl rfl (by kernel_rfl) Try.func6 (by kernel_rfl)
    (of_decide_eq_true (by kernel_rfl)) (by unfold Func.isWrapper; first | (rw [if_pos (by decide +kernel)]; kernel_rfl) | (rw [if_neg (by decide +kernel)]; exact ⟨rfl, rfl⟩))
    (fun os started H enc _ => lifted os started H enc)
end Go.Proofs.Ytbmbnopgekbppaa.profileLimits
namespace Go.Proofs.Ytbmbnopgekbppaa
/-- ProfileLimits: for every input the statement is true; the input reads behind as it did. -/
theorem profileLimits_holds : Rows.ProfileLimitsSaid := profileLimits.over
#print axioms profileLimits_holds
end Go.Proofs.Ytbmbnopgekbppaa
