/- PointsTables: for every input the statement is true. -/
import Derived.Test.YtemdppcnhlnicaaRows
import Derived.Test.YtemdppcnhlnicaaEvW
import Derived.Test.YtemdppcnhlnicaaMPoints8
import Derived.WalkKit
import Derived.ProofKit
import Derived.OpenShut
import Derived.ShutString
import Derived.ChangeOld
import Derived.Below
import Derived.SizedLaws
set_option linter.unusedVariables false
set_option linter.unusedSimpArgs false
namespace Go.Proofs.Ytemdppcnhlnicaa.Ev
open Go Go.RowKit
theorem encDec3 (x : Int) : E.dec 3 (E.enc 3 x) = some x := rfl
theorem encDec26 (x : List Int × Int) : E.dec 26 (E.enc 26 x) = some x := rfl
theorem encDec38 (x : List Int × Int) : E.dec 38 (E.enc 38 x) = some x := rfl
theorem encDec48 (x : Int × Int × List Int) : E.dec 48 (E.enc 48 x) = some x := rfl
theorem encDec49 (x : Int × Int × List Int) : E.dec 49 (E.enc 49 x) = some x := rfl
theorem fact3 (x : Int) (hh : ∃ m, Shaped Try.prog E m 3 (E.enc 3 x)) : (Lit.int .i64 x).wf = true := by
  obtain ⟨m, h⟩ := hh
  generalize hx : E.enc 3 x = cs0 at h
  obtain ⟨n1, rfl, w2⟩ := shaped_int Try.underlying3 h
  have hi : x = n1 := Option.some.inj ((encDec3 x).symm.trans ((congrArg (E.dec 3) hx).trans (by rfl)))
  rw [hi]
  exact w2
theorem fact26 (x : List Int × Int) (hh : ∃ m, Shaped Try.prog E m 26 (E.enc 26 x)) : (((x.1).length ≤ maxLen ∧ ∀ y ∈ x.1, (Lit.int .i64 y).wf = true)) ∧ (Lit.int .i64 x.2).wf = true := by
  obtain ⟨m, h⟩ := hh
  generalize hx : E.enc 26 x = cs0 at h
  obtain ⟨m1, p2, rfl, l3⟩ := shaped_struct Try.underlying26 h
  obtain ⟨p4, p5, rfl, s6, l7⟩ := shapedL_cons (t := 22) (ts := [3]) l3
  obtain ⟨p8, p9, rfl, s10, l11⟩ := shapedL_cons (t := 3) (ts := []) l7
  obtain rfl := shapedL_nil l11
  obtain ⟨n12, rfl, w13, f14⟩ := shaped_slice Try.underlying22 s6
  obtain ⟨n15, rfl, w16⟩ := shaped_int Try.underlying3 s10
  have hi : x = (n12, n15) := Option.some.inj ((encDec26 x).symm.trans ((congrArg (E.dec 26) hx).trans (by rfl)))
  rw [hi]
  exact ⟨⟨w13, fun x hx => fact3 x (f14 x hx)⟩, w16⟩
theorem fact38 (x : List Int × Int) (hh : ∃ m, Shaped Try.prog E m 38 (E.enc 38 x)) : (((x.1).length ≤ maxLen ∧ ∀ y ∈ x.1, (Lit.int .i64 y).wf = true)) ∧ (Lit.int .i64 x.2).wf = true := by
  obtain ⟨m, h⟩ := hh
  generalize hx : E.enc 38 x = cs0 at h
  obtain ⟨m1, p2, rfl, l3⟩ := shaped_struct Try.underlying38 h
  obtain ⟨p4, p5, rfl, s6, l7⟩ := shapedL_cons (t := 22) (ts := [3]) l3
  obtain ⟨p8, p9, rfl, s10, l11⟩ := shapedL_cons (t := 3) (ts := []) l7
  obtain rfl := shapedL_nil l11
  obtain ⟨n12, rfl, w13, f14⟩ := shaped_slice Try.underlying22 s6
  obtain ⟨n15, rfl, w16⟩ := shaped_int Try.underlying3 s10
  have hi : x = (n12, n15) := Option.some.inj ((encDec38 x).symm.trans ((congrArg (E.dec 38) hx).trans (by rfl)))
  rw [hi]
  exact ⟨⟨w13, fun x hx => fact3 x (f14 x hx)⟩, w16⟩
theorem fact48 (x : Int × Int × List Int) (hh : ∃ m, Shaped Try.prog E m 48 (E.enc 48 x)) : (Lit.int .i64 x.1).wf = true ∧ (Lit.int .i64 x.2.1).wf = true ∧ (((x.2.2).length ≤ maxLen ∧ ∀ y ∈ x.2.2, (Lit.int .i64 y).wf = true)) := by
  obtain ⟨m, h⟩ := hh
  generalize hx : E.enc 48 x = cs0 at h
  obtain ⟨m1, p2, rfl, l3⟩ := shaped_struct Try.underlying48 h
  obtain ⟨p4, p5, rfl, s6, l7⟩ := shapedL_cons (t := 3) (ts := [3, 22]) l3
  obtain ⟨p8, p9, rfl, s10, l11⟩ := shapedL_cons (t := 3) (ts := [22]) l7
  obtain ⟨p12, p13, rfl, s14, l15⟩ := shapedL_cons (t := 22) (ts := []) l11
  obtain rfl := shapedL_nil l15
  obtain ⟨n16, rfl, w17⟩ := shaped_int Try.underlying3 s6
  obtain ⟨n18, rfl, w19⟩ := shaped_int Try.underlying3 s10
  obtain ⟨n20, rfl, w21, f22⟩ := shaped_slice Try.underlying22 s14
  have hi : x = (n16, (n18, n20)) := Option.some.inj ((encDec48 x).symm.trans ((congrArg (E.dec 48) hx).trans (by rfl)))
  rw [hi]
  exact ⟨w17, w19, ⟨w21, fun x hx => fact3 x (f22 x hx)⟩⟩
theorem fact49 (x : Int × Int × List Int) (hh : ∃ m, Shaped Try.prog E m 49 (E.enc 49 x)) : (Lit.int .i64 x.1).wf = true ∧ (Lit.int .i64 x.2.1).wf = true ∧ (((x.2.2).length ≤ maxLen ∧ ∀ y ∈ x.2.2, (Lit.int .i64 y).wf = true)) := by
  obtain ⟨m, h⟩ := hh
  generalize hx : E.enc 49 x = cs0 at h
  obtain ⟨m1, p2, rfl, l3⟩ := shaped_struct Try.underlying49 h
  obtain ⟨p4, p5, rfl, s6, l7⟩ := shapedL_cons (t := 3) (ts := [3, 22]) l3
  obtain ⟨p8, p9, rfl, s10, l11⟩ := shapedL_cons (t := 3) (ts := [22]) l7
  obtain ⟨p12, p13, rfl, s14, l15⟩ := shapedL_cons (t := 22) (ts := []) l11
  obtain rfl := shapedL_nil l15
  obtain ⟨n16, rfl, w17⟩ := shaped_int Try.underlying3 s6
  obtain ⟨n18, rfl, w19⟩ := shaped_int Try.underlying3 s10
  obtain ⟨n20, rfl, w21, f22⟩ := shaped_slice Try.underlying22 s14
  have hi : x = (n16, (n18, n20)) := Option.some.inj ((encDec49 x).symm.trans ((congrArg (E.dec 49) hx).trans (by rfl)))
  rw [hi]
  exact ⟨w17, w19, ⟨w21, fun x hx => fact3 x (f22 x hx)⟩⟩
theorem comp : ∀ n e cs0, e ∈ [3, 26, 38, 48, 49] → Shaped Try.prog E n e cs0 → ∃ x, E.enc e x = cs0 := by
  intro n e cs0 he h
  simp only [List.mem_cons, List.not_mem_nil, or_false] at he
  rcases he with rfl | rfl | rfl | rfl | rfl
  · obtain ⟨n1, rfl, w2⟩ := shaped_int Try.underlying3 h
    exact ⟨(n1 : Int), rfl⟩
  · obtain ⟨m1, p2, rfl, l3⟩ := shaped_struct Try.underlying26 h
    obtain ⟨p4, p5, rfl, s6, l7⟩ := shapedL_cons (t := 22) (ts := [3]) l3
    obtain ⟨p8, p9, rfl, s10, l11⟩ := shapedL_cons (t := 3) (ts := []) l7
    obtain rfl := shapedL_nil l11
    obtain ⟨n12, rfl, w13, f14⟩ := shaped_slice Try.underlying22 s6
    obtain ⟨n15, rfl, w16⟩ := shaped_int Try.underlying3 s10
    exact ⟨((n12, n15) : List Int × Int), rfl⟩
  · obtain ⟨m1, p2, rfl, l3⟩ := shaped_struct Try.underlying38 h
    obtain ⟨p4, p5, rfl, s6, l7⟩ := shapedL_cons (t := 22) (ts := [3]) l3
    obtain ⟨p8, p9, rfl, s10, l11⟩ := shapedL_cons (t := 3) (ts := []) l7
    obtain rfl := shapedL_nil l11
    obtain ⟨n12, rfl, w13, f14⟩ := shaped_slice Try.underlying22 s6
    obtain ⟨n15, rfl, w16⟩ := shaped_int Try.underlying3 s10
    exact ⟨((n12, n15) : List Int × Int), rfl⟩
  · obtain ⟨m1, p2, rfl, l3⟩ := shaped_struct Try.underlying48 h
    obtain ⟨p4, p5, rfl, s6, l7⟩ := shapedL_cons (t := 3) (ts := [3, 22]) l3
    obtain ⟨p8, p9, rfl, s10, l11⟩ := shapedL_cons (t := 3) (ts := [22]) l7
    obtain ⟨p12, p13, rfl, s14, l15⟩ := shapedL_cons (t := 22) (ts := []) l11
    obtain rfl := shapedL_nil l15
    obtain ⟨n16, rfl, w17⟩ := shaped_int Try.underlying3 s6
    obtain ⟨n18, rfl, w19⟩ := shaped_int Try.underlying3 s10
    obtain ⟨n20, rfl, w21, f22⟩ := shaped_slice Try.underlying22 s14
    exact ⟨((n16, (n18, n20)) : Int × Int × List Int), rfl⟩
  · obtain ⟨m1, p2, rfl, l3⟩ := shaped_struct Try.underlying49 h
    obtain ⟨p4, p5, rfl, s6, l7⟩ := shapedL_cons (t := 3) (ts := [3, 22]) l3
    obtain ⟨p8, p9, rfl, s10, l11⟩ := shapedL_cons (t := 3) (ts := [22]) l7
    obtain ⟨p12, p13, rfl, s14, l15⟩ := shapedL_cons (t := 22) (ts := []) l11
    obtain rfl := shapedL_nil l15
    obtain ⟨n16, rfl, w17⟩ := shaped_int Try.underlying3 s6
    obtain ⟨n18, rfl, w19⟩ := shaped_int Try.underlying3 s10
    obtain ⟨n20, rfl, w21, f22⟩ := shaped_slice Try.underlying22 s14
    exact ⟨((n16, (n18, n20)) : Int × Int × List Int), rfl⟩
end Go.Proofs.Ytemdppcnhlnicaa.Ev
namespace Go.Proofs.Ytemdppcnhlnicaa.pointsTables
open Go Ev
open Go.ChangeShapes Go.WideShapes Go.ChangeAt Go.RowKit
theorem own : ownKnob Try.prog.godebug = none := by kernel_rfl
theorem laidOut : laidOutB Try.prog = true := by kernel_rfl
set_option maxRecDepth 100000 in
theorem lifted (os : Os) (started : os.Started) (H : Type) (enc : TypeId × Value → H) :
    ReturnsInHanded {} Try.checked os 4 .any (Rows.pointsTablesSpec.pre6 enc Try.prog Try.f4 Rows.pointsTablesRow.domain false) (Rows.pointsTablesSpec.post enc Try.prog Try.f4 false true false false) := by
  refine returnsInHanded_of_change_sized (C := Try.checked) own started (by kernel_rfl) Try.func4
    (ChangeSpec.witness6 (enc := enc) (C := Try.checked) false ⟨#[], #[.agg #[.slice none 0 0, .int .i64 0], .slice none 0 0, .int .i64 0], []⟩ 8 (by kernel_rfl) (by kernel_rfl) (by kernel_rfl) (by kernel_rfl)) ?_
  intro W base args ds gs before hval0 hW hcnd hsz0 _
  have hval : ∀ (j : Nat) t v, Try.f4.params[j]? = some t → args[j]? = some v → Value.okWide Try.prog W .any base t v := hval0
  have hW' := hW
  obtain ⟨p, q, hA0, hV, rfl, hfz, hnd⟩ := hW
  have hA : DataW.TrodAll enc Try.prog W 0 (fun _ => true) true Try.f4.params.toList args.toList ds p := hA0
  rw [Try.params4] at hA hval
  obtain ⟨v0, vs0, d0, ds0, p0, q0, hargs, rfl, rfl, h0, r0⟩ := trodAll_cons hA
  obtain ⟨v1, vs1, d1, ds1, p1, q1, rfl, rfl, rfl, h1, r1⟩ := trodAll_cons r0
  obtain ⟨v2, vs2, d2, ds2, p2, q2, rfl, rfl, rfl, h2, r2⟩ := trodAll_cons r1
  obtain ⟨rfl, rfl, rfl⟩ := trodAll_nil r2
  obtain rfl : args = #[v0, v1, v2] := by cases args; simp_all
  obtain ⟨rfl, rfl⟩ := trodVars_none hV
  have k0 := h0
  have lt0 : ∀ x ∈ p0, x.block < W.heap.size := by obtain ⟨m, hm⟩ := k0; exact DataW.trod_lt m _ _ _ hm
  obtain ⟨t0, as0, sh0, re0⟩ := arg_agg envOk comp (by kernel_rfl) (by kernel_rfl) (hval 0 24 v0 rfl rfl) h0
  obtain ⟨m101, p102, rfl, l103⟩ := shaped_struct Try.underlying24 sh0
  obtain ⟨p104, p105, rfl, s106, l107⟩ := shapedL_cons (t := 22) (ts := [3]) l103
  obtain ⟨p108, p109, rfl, s110, l111⟩ := shapedL_cons (t := 3) (ts := []) l107
  obtain rfl := shapedL_nil l111
  obtain ⟨n112, rfl, w113, f114⟩ := shaped_slice Try.underlying22 s106
  obtain ⟨n115, rfl, w116⟩ := shaped_int Try.underlying3 s110
  have k1 := h1
  have lt1 : ∀ x ∈ p1, x.block < W.heap.size := by obtain ⟨m, hm⟩ := k1; exact DataW.trod_lt m _ _ _ hm
  have ce1 : v1.cells = #[v1] := by obtain ⟨a, l, c, rfl⟩ := okWide_slice Try.underlying28 (hval 1 28 v1 rfl rfl); rfl
  obtain ⟨t1, a1, sh1, re1⟩ := arg_one envOk comp (by kernel_rfl) ce1 h1
  obtain ⟨n1101, e1, w1102, f1103⟩ := shaped_slice Try.underlying28 sh1
  obtain rfl := (List.cons.inj e1).1
  have k2 := h2
  have lt2 : ∀ x ∈ p2, x.block < W.heap.size := by obtain ⟨m, hm⟩ := k2; exact DataW.trod_lt m _ _ _ hm
  have ce2 : v2.cells = #[v2] := by obtain ⟨a, rfl⟩ := okWide_int Try.underlying3 (hval 2 3 v2 rfl rfl); rfl
  obtain ⟨t2, a2, sh2, re2⟩ := arg_one envOk comp (by kernel_rfl) ce2 h2
  obtain ⟨n2101, e2, w2102⟩ := shaped_int Try.underlying3 sh2
  obtain rfl := (List.cons.inj e2).1
  clear hA0 hval0 hsz0
  refine (law_ok (vals := [v0, v1, v2]) (v := ((n112, n115), (n1101, n2101))) Try.func4 (by kernel_rfl) rfl ok4_0 (fun _ => rfl) rfl (law4_0 _ ⟨⟨⟨w113, fun x hx => fact3 x (f114 x hx)⟩, w116⟩, ⟨w1102, fun x hx => fact26 x (f1103 x hx)⟩, w2102⟩) (fun c hc => Reps.cons (re0 c hc) (Reps.cons (re1 c hc) (Reps.cons (re2 c hc) (Reps.nil _))))).mono fun e W' ⟨he, bel⟩ => ?_
  subst he
  exact ⟨_, rfl, _, _, _, [], _, [], hW', trodAll_mk1 (shut_bool Try.underlying4 _), (trodAll_cons_mk (Below.trod laidOut (by kernel_rfl) (of_decide_eq_true (by kernel_rfl)) k0 bel lt0) (trodAll_cons_mk (Below.trod laidOut (by kernel_rfl) (of_decide_eq_true (by kernel_rfl)) k1 bel lt1) (trodAll_cons_mk (Below.trod laidOut (by kernel_rfl) (of_decide_eq_true (by kernel_rfl)) k2 bel lt2) trodAll_mk0))), rfl, bel.frame _, fun h => by cases h⟩
theorem over : Rows.pointsTablesRow.holds Try.pinned (OpenSpec.ofChange Rows.pointsTablesSpec) :=
  OpenClaim.holds_of_wide 4 Try.f4 rfl rfl rfl rfl rfl rfl rfl ⟨rfl, rfl, rfl, rfl, rfl⟩ rfl rfl rfl rfl rfl (by kernel_rfl) Try.func4 (by kernel_rfl)
    (of_decide_eq_true (by kernel_rfl)) (by unfold Func.isWrapper; first | (rw [if_pos (by decide +kernel)]; kernel_rfl) | (rw [if_neg (by decide +kernel)]; exact ⟨rfl, rfl⟩))
    (fun os started H enc _ => lifted os started H enc)
end Go.Proofs.Ytemdppcnhlnicaa.pointsTables
namespace Go.Proofs.Ytemdppcnhlnicaa
/-- PointsTables: for every input the statement is true; the input reads behind as it did. -/
theorem pointsTables_holds : Rows.PointsTablesSaid := pointsTables.over
#print axioms pointsTables_holds
end Go.Proofs.Ytemdppcnhlnicaa
