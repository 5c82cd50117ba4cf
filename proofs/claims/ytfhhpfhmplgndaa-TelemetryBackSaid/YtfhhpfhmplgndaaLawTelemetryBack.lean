/- TelemetryBack: for every input the statement is true. -/
import Derived.Test.YtfhhpfhmplgndaaRows
import Derived.Test.YtfhhpfhmplgndaaEvW
import Derived.Test.YtfhhpfhmplgndaaMBack2
import Derived.WalkKit
import Derived.ProofKit
import Derived.OpenShut
import Derived.ShutString
import Derived.ChangeOld
import Derived.Below
import Derived.SizedLaws
set_option linter.unusedVariables false
set_option linter.unusedSimpArgs false
namespace Go.Proofs.Ytfhhpfhmplgndaa.Ev
open Go Go.RowKit
theorem encDec5 (x : Int) : E.dec 5 (E.enc 5 x) = some x := rfl
theorem encDec23 (x : Int) : E.dec 23 (E.enc 23 x) = some x := rfl
theorem encDec55 (x : Int × Int × Int × Int × Int × Int × Int × Int) : E.dec 55 (E.enc 55 x) = some x := rfl
theorem encDec56 (x : Int × Int × Int × Int × Int × Int × Int × Int) : E.dec 56 (E.enc 56 x) = some x := rfl
theorem fact5 (x : Int) (hh : ∃ m, Shaped Try.prog E m 5 (E.enc 5 x)) : (Lit.int .u8 x).wf = true := by
  obtain ⟨m, h⟩ := hh
  generalize hx : E.enc 5 x = cs0 at h
  obtain ⟨n1, rfl, w2⟩ := shaped_int Try.underlying5 h
  have hi : x = n1 := Option.some.inj ((encDec5 x).symm.trans ((congrArg (E.dec 5) hx).trans (by rfl)))
  rw [hi]
  exact w2
theorem fact23 (x : Int) (hh : ∃ m, Shaped Try.prog E m 23 (E.enc 23 x)) : (Lit.int .i64 x).wf = true := by
  obtain ⟨m, h⟩ := hh
  generalize hx : E.enc 23 x = cs0 at h
  obtain ⟨n1, rfl, w2⟩ := shaped_int Try.underlying23 h
  have hi : x = n1 := Option.some.inj ((encDec23 x).symm.trans ((congrArg (E.dec 23) hx).trans (by rfl)))
  rw [hi]
  exact w2
theorem fact55 (x : Int × Int × Int × Int × Int × Int × Int × Int) (hh : ∃ m, Shaped Try.prog E m 55 (E.enc 55 x)) : (Lit.int .i64 x.1).wf = true ∧ (Lit.int .i64 x.2.1).wf = true ∧ (Lit.int .i64 x.2.2.1).wf = true ∧ (Lit.int .i64 x.2.2.2.1).wf = true ∧ (Lit.int .i64 x.2.2.2.2.1).wf = true ∧ (Lit.int .i64 x.2.2.2.2.2.1).wf = true ∧ (Lit.int .i64 x.2.2.2.2.2.2.1).wf = true ∧ (Lit.int .i64 x.2.2.2.2.2.2.2).wf = true := by
  obtain ⟨m, h⟩ := hh
  generalize hx : E.enc 55 x = cs0 at h
  obtain ⟨m1, p2, rfl, l3⟩ := shaped_array Try.underlying55 h
  obtain ⟨p4, p5, rfl, s6, l7⟩ := shapedL_cons (t := 23) (ts := [23, 23, 23, 23, 23, 23, 23]) l3
  obtain ⟨p8, p9, rfl, s10, l11⟩ := shapedL_cons (t := 23) (ts := [23, 23, 23, 23, 23, 23]) l7
  obtain ⟨p12, p13, rfl, s14, l15⟩ := shapedL_cons (t := 23) (ts := [23, 23, 23, 23, 23]) l11
  obtain ⟨p16, p17, rfl, s18, l19⟩ := shapedL_cons (t := 23) (ts := [23, 23, 23, 23]) l15
  obtain ⟨p20, p21, rfl, s22, l23⟩ := shapedL_cons (t := 23) (ts := [23, 23, 23]) l19
  obtain ⟨p24, p25, rfl, s26, l27⟩ := shapedL_cons (t := 23) (ts := [23, 23]) l23
  obtain ⟨p28, p29, rfl, s30, l31⟩ := shapedL_cons (t := 23) (ts := [23]) l27
  obtain ⟨p32, p33, rfl, s34, l35⟩ := shapedL_cons (t := 23) (ts := []) l31
  obtain rfl := shapedL_nil l35
  obtain ⟨n36, rfl, w37⟩ := shaped_int Try.underlying23 s6
  obtain ⟨n38, rfl, w39⟩ := shaped_int Try.underlying23 s10
  obtain ⟨n40, rfl, w41⟩ := shaped_int Try.underlying23 s14
  obtain ⟨n42, rfl, w43⟩ := shaped_int Try.underlying23 s18
  obtain ⟨n44, rfl, w45⟩ := shaped_int Try.underlying23 s22
  obtain ⟨n46, rfl, w47⟩ := shaped_int Try.underlying23 s26
  obtain ⟨n48, rfl, w49⟩ := shaped_int Try.underlying23 s30
  obtain ⟨n50, rfl, w51⟩ := shaped_int Try.underlying23 s34
  have hi : x = (n36, (n38, (n40, (n42, (n44, (n46, (n48, n50))))))) := Option.some.inj ((encDec55 x).symm.trans ((congrArg (E.dec 55) hx).trans (by rfl)))
  rw [hi]
  exact ⟨w37, w39, w41, w43, w45, w47, w49, w51⟩
theorem fact56 (x : Int × Int × Int × Int × Int × Int × Int × Int) (hh : ∃ m, Shaped Try.prog E m 56 (E.enc 56 x)) : (Lit.int .i64 x.1).wf = true ∧ (Lit.int .i64 x.2.1).wf = true ∧ (Lit.int .i64 x.2.2.1).wf = true ∧ (Lit.int .i64 x.2.2.2.1).wf = true ∧ (Lit.int .i64 x.2.2.2.2.1).wf = true ∧ (Lit.int .i64 x.2.2.2.2.2.1).wf = true ∧ (Lit.int .i64 x.2.2.2.2.2.2.1).wf = true ∧ (Lit.int .i64 x.2.2.2.2.2.2.2).wf = true := by
  obtain ⟨m, h⟩ := hh
  generalize hx : E.enc 56 x = cs0 at h
  obtain ⟨m1, p2, rfl, l3⟩ := shaped_array Try.underlying56 h
  obtain ⟨p4, p5, rfl, s6, l7⟩ := shapedL_cons (t := 23) (ts := [23, 23, 23, 23, 23, 23, 23]) l3
  obtain ⟨p8, p9, rfl, s10, l11⟩ := shapedL_cons (t := 23) (ts := [23, 23, 23, 23, 23, 23]) l7
  obtain ⟨p12, p13, rfl, s14, l15⟩ := shapedL_cons (t := 23) (ts := [23, 23, 23, 23, 23]) l11
  obtain ⟨p16, p17, rfl, s18, l19⟩ := shapedL_cons (t := 23) (ts := [23, 23, 23, 23]) l15
  obtain ⟨p20, p21, rfl, s22, l23⟩ := shapedL_cons (t := 23) (ts := [23, 23, 23]) l19
  obtain ⟨p24, p25, rfl, s26, l27⟩ := shapedL_cons (t := 23) (ts := [23, 23]) l23
  obtain ⟨p28, p29, rfl, s30, l31⟩ := shapedL_cons (t := 23) (ts := [23]) l27
  obtain ⟨p32, p33, rfl, s34, l35⟩ := shapedL_cons (t := 23) (ts := []) l31
  obtain rfl := shapedL_nil l35
  obtain ⟨n36, rfl, w37⟩ := shaped_int Try.underlying23 s6
  obtain ⟨n38, rfl, w39⟩ := shaped_int Try.underlying23 s10
  obtain ⟨n40, rfl, w41⟩ := shaped_int Try.underlying23 s14
  obtain ⟨n42, rfl, w43⟩ := shaped_int Try.underlying23 s18
  obtain ⟨n44, rfl, w45⟩ := shaped_int Try.underlying23 s22
  obtain ⟨n46, rfl, w47⟩ := shaped_int Try.underlying23 s26
  obtain ⟨n48, rfl, w49⟩ := shaped_int Try.underlying23 s30
  obtain ⟨n50, rfl, w51⟩ := shaped_int Try.underlying23 s34
  have hi : x = (n36, (n38, (n40, (n42, (n44, (n46, (n48, n50))))))) := Option.some.inj ((encDec56 x).symm.trans ((congrArg (E.dec 56) hx).trans (by rfl)))
  rw [hi]
  exact ⟨w37, w39, w41, w43, w45, w47, w49, w51⟩
theorem comp : ∀ n e cs0, e ∈ [5, 23, 55, 56] → Shaped Try.prog E n e cs0 → ∃ x, E.enc e x = cs0 := by
  intro n e cs0 he h
  simp only [List.mem_cons, List.not_mem_nil, or_false] at he
  rcases he with rfl | rfl | rfl | rfl
  · obtain ⟨n1, rfl, w2⟩ := shaped_int Try.underlying5 h
    exact ⟨(n1 : Int), rfl⟩
  · obtain ⟨n1, rfl, w2⟩ := shaped_int Try.underlying23 h
    exact ⟨(n1 : Int), rfl⟩
  · obtain ⟨m1, p2, rfl, l3⟩ := shaped_array Try.underlying55 h
    obtain ⟨p4, p5, rfl, s6, l7⟩ := shapedL_cons (t := 23) (ts := [23, 23, 23, 23, 23, 23, 23]) l3
    obtain ⟨p8, p9, rfl, s10, l11⟩ := shapedL_cons (t := 23) (ts := [23, 23, 23, 23, 23, 23]) l7
    obtain ⟨p12, p13, rfl, s14, l15⟩ := shapedL_cons (t := 23) (ts := [23, 23, 23, 23, 23]) l11
    obtain ⟨p16, p17, rfl, s18, l19⟩ := shapedL_cons (t := 23) (ts := [23, 23, 23, 23]) l15
    obtain ⟨p20, p21, rfl, s22, l23⟩ := shapedL_cons (t := 23) (ts := [23, 23, 23]) l19
    obtain ⟨p24, p25, rfl, s26, l27⟩ := shapedL_cons (t := 23) (ts := [23, 23]) l23
    obtain ⟨p28, p29, rfl, s30, l31⟩ := shapedL_cons (t := 23) (ts := [23]) l27
    obtain ⟨p32, p33, rfl, s34, l35⟩ := shapedL_cons (t := 23) (ts := []) l31
    obtain rfl := shapedL_nil l35
    obtain ⟨n36, rfl, w37⟩ := shaped_int Try.underlying23 s6
    obtain ⟨n38, rfl, w39⟩ := shaped_int Try.underlying23 s10
    obtain ⟨n40, rfl, w41⟩ := shaped_int Try.underlying23 s14
    obtain ⟨n42, rfl, w43⟩ := shaped_int Try.underlying23 s18
    obtain ⟨n44, rfl, w45⟩ := shaped_int Try.underlying23 s22
    obtain ⟨n46, rfl, w47⟩ := shaped_int Try.underlying23 s26
    obtain ⟨n48, rfl, w49⟩ := shaped_int Try.underlying23 s30
    obtain ⟨n50, rfl, w51⟩ := shaped_int Try.underlying23 s34
    exact ⟨((n36, (n38, (n40, (n42, (n44, (n46, (n48, n50))))))) : Int × Int × Int × Int × Int × Int × Int × Int), rfl⟩
  · obtain ⟨m1, p2, rfl, l3⟩ := shaped_array Try.underlying56 h
    obtain ⟨p4, p5, rfl, s6, l7⟩ := shapedL_cons (t := 23) (ts := [23, 23, 23, 23, 23, 23, 23]) l3
    obtain ⟨p8, p9, rfl, s10, l11⟩ := shapedL_cons (t := 23) (ts := [23, 23, 23, 23, 23, 23]) l7
    obtain ⟨p12, p13, rfl, s14, l15⟩ := shapedL_cons (t := 23) (ts := [23, 23, 23, 23, 23]) l11
    obtain ⟨p16, p17, rfl, s18, l19⟩ := shapedL_cons (t := 23) (ts := [23, 23, 23, 23]) l15
    obtain ⟨p20, p21, rfl, s22, l23⟩ := shapedL_cons (t := 23) (ts := [23, 23, 23]) l19
    obtain ⟨p24, p25, rfl, s26, l27⟩ := shapedL_cons (t := 23) (ts := [23, 23]) l23
    obtain ⟨p28, p29, rfl, s30, l31⟩ := shapedL_cons (t := 23) (ts := [23]) l27
    obtain ⟨p32, p33, rfl, s34, l35⟩ := shapedL_cons (t := 23) (ts := []) l31
    obtain rfl := shapedL_nil l35
    obtain ⟨n36, rfl, w37⟩ := shaped_int Try.underlying23 s6
    obtain ⟨n38, rfl, w39⟩ := shaped_int Try.underlying23 s10
    obtain ⟨n40, rfl, w41⟩ := shaped_int Try.underlying23 s14
    obtain ⟨n42, rfl, w43⟩ := shaped_int Try.underlying23 s18
    obtain ⟨n44, rfl, w45⟩ := shaped_int Try.underlying23 s22
    obtain ⟨n46, rfl, w47⟩ := shaped_int Try.underlying23 s26
    obtain ⟨n48, rfl, w49⟩ := shaped_int Try.underlying23 s30
    obtain ⟨n50, rfl, w51⟩ := shaped_int Try.underlying23 s34
    exact ⟨((n36, (n38, (n40, (n42, (n44, (n46, (n48, n50))))))) : Int × Int × Int × Int × Int × Int × Int × Int), rfl⟩
end Go.Proofs.Ytfhhpfhmplgndaa.Ev
namespace Go.Proofs.Ytfhhpfhmplgndaa.telemetryBack
open Go Ev
open Go.ChangeShapes Go.WideShapes Go.ChangeAt Go.RowKit
theorem own : ownKnob Try.prog.godebug = none := by kernel_rfl
theorem laidOut : laidOutB Try.prog = true := by kernel_rfl
set_option maxRecDepth 100000 in
theorem lifted (os : Os) (started : os.Started) (H : Type) (enc : TypeId × Value → H) :
    ReturnsInHanded {} Try.checked os 8 .any (Rows.telemetryBackSpec.pre6 enc Try.prog Try.f8 Rows.telemetryBackRow.domain false) (Rows.telemetryBackSpec.post enc Try.prog Try.f8 false true false false) := by
  refine returnsInHanded_of_change_sized (C := Try.checked) own started (by kernel_rfl) Try.func8
    (ChangeSpec.witness6 (enc := enc) (C := Try.checked) false ⟨#[], #[.slice none 0 0, .slice none 0 0], []⟩ 8 (by kernel_rfl) (by kernel_rfl) (by kernel_rfl) (by kernel_rfl)) ?_
  intro W base args ds gs before hval0 hW hcnd hsz0 _
  have hval : ∀ (j : Nat) t v, Try.f8.params[j]? = some t → args[j]? = some v → Value.okWide Try.prog W .any base t v := hval0
  have hW' := hW
  obtain ⟨p, q, hA0, hV, rfl, hfz, hnd⟩ := hW
  have hA : DataW.TrodAll enc Try.prog W 0 (fun _ => true) true Try.f8.params.toList args.toList ds p := hA0
  rw [Try.params8] at hA hval
  obtain ⟨v0, vs0, d0, ds0, p0, q0, hargs, rfl, rfl, h0, r0⟩ := trodAll_cons hA
  obtain ⟨v1, vs1, d1, ds1, p1, q1, rfl, rfl, rfl, h1, r1⟩ := trodAll_cons r0
  obtain ⟨rfl, rfl, rfl⟩ := trodAll_nil r1
  obtain rfl : args = #[v0, v1] := by cases args; simp_all
  obtain ⟨rfl, rfl⟩ := trodVars_none hV
  have k0 := h0
  have lt0 : ∀ x ∈ p0, x.block < W.heap.size := by obtain ⟨m, hm⟩ := k0; exact DataW.trod_lt m _ _ _ hm
  have ce0 : v0.cells = #[v0] := by obtain ⟨a, l, c, rfl⟩ := okWide_slice Try.underlying60 (hval 0 60 v0 rfl rfl); rfl
  obtain ⟨t0, a0, sh0, re0⟩ := arg_one envOk comp (by kernel_rfl) ce0 h0
  obtain ⟨n101, e0, w102, f103⟩ := shaped_slice Try.underlying60 sh0
  obtain rfl := (List.cons.inj e0).1
  have k1 := h1
  have lt1 : ∀ x ∈ p1, x.block < W.heap.size := by obtain ⟨m, hm⟩ := k1; exact DataW.trod_lt m _ _ _ hm
  have ce1 : v1.cells = #[v1] := by obtain ⟨a, l, c, rfl⟩ := okWide_slice Try.underlying61 (hval 1 61 v1 rfl rfl); rfl
  obtain ⟨t1, a1, sh1, re1⟩ := arg_one envOk comp (by kernel_rfl) ce1 h1
  obtain ⟨n1101, e1, w1102, f1103⟩ := shaped_slice Try.underlying61 sh1
  obtain rfl := (List.cons.inj e1).1
  clear hA0 hval0 hsz0
  refine (law_ok (vals := [v0, v1]) (v := (n101, n1101)) Try.func8 (by kernel_rfl) rfl ok8_0 (fun _ => rfl) rfl (law8_0 _ ⟨⟨w102, fun x hx => fact56 x (f103 x hx)⟩, ⟨w1102, fun x hx => fact5 x (f1103 x hx)⟩⟩) (fun c hc => Reps.cons (re0 c hc) (Reps.cons (re1 c hc) (Reps.nil _)))).mono fun e W' ⟨he, bel⟩ => ?_
  subst he
  exact ⟨_, rfl, _, _, _, [], _, [], hW', trodAll_mk1 (shut_bool Try.underlying4 _), (trodAll_cons_mk (Below.trod laidOut (by kernel_rfl) (of_decide_eq_true (by kernel_rfl)) k0 bel lt0) (trodAll_cons_mk (Below.trod laidOut (by kernel_rfl) (of_decide_eq_true (by kernel_rfl)) k1 bel lt1) trodAll_mk0)), rfl, bel.frame _, fun h => by cases h⟩
theorem over : Rows.telemetryBackRow.holds Try.pinned (OpenSpec.ofChange Rows.telemetryBackSpec) :=
  OpenClaim.holds_of_wide 8 Try.f8 rfl rfl rfl rfl rfl rfl rfl ⟨rfl, rfl, rfl, rfl, rfl⟩ rfl rfl rfl rfl rfl (by kernel_rfl) Try.func8 (by kernel_rfl)
    (of_decide_eq_true (by kernel_rfl)) (by unfold Func.isWrapper; first | (rw [if_pos (by decide +kernel)]; kernel_rfl) | (rw [if_neg (by decide +kernel)]; exact ⟨rfl, rfl⟩))
    (fun os started H enc _ => lifted os started H enc)
end Go.Proofs.Ytfhhpfhmplgndaa.telemetryBack
namespace Go.Proofs.Ytfhhpfhmplgndaa
/-- TelemetryBack: for every input the statement is true; the input reads behind as it did. -/
theorem telemetryBack_holds : Rows.TelemetryBackSaid := telemetryBack.over
#print axioms telemetryBack_holds
end Go.Proofs.Ytfhhpfhmplgndaa
