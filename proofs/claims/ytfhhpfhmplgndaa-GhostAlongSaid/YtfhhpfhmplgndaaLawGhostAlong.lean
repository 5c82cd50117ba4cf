/- GhostAlong: for every input the statement is true. -/
import Derived.Test.YtfhhpfhmplgndaaRows
import Derived.Test.YtfhhpfhmplgndaaEvW
import Derived.Test.YtfhhpfhmplgndaaMAlong
import Derived.WalkKit
import Derived.ProofKit
import Derived.OpenShut
import Derived.ShutString
import Derived.ChangeOld
import Derived.Below
import Derived.SizedLaws
set_option linter.unusedVariables false
set_option linter.unusedSimpArgs false
namespace Go.Proofs.Ytfhhpfhmplgndaa.Ev
open Go Go.RowKit
theorem encDec3 (x : Int) : E.dec 3 (E.enc 3 x) = some x := rfl
theorem encDec23 (x : Int) : E.dec 23 (E.enc 23 x) = some x := rfl
theorem encDec69 (x : Int × Int) : E.dec 69 (E.enc 69 x) = some x := rfl
theorem fact3 (x : Int) (hh : ∃ m, Shaped Try.prog E m 3 (E.enc 3 x)) : (Lit.int .i64 x).wf = true := by
  obtain ⟨m, h⟩ := hh
  generalize hx : E.enc 3 x = cs0 at h
  obtain ⟨n1, rfl, w2⟩ := shaped_int Try.underlying3 h
  have hi : x = n1 := Option.some.inj ((encDec3 x).symm.trans ((congrArg (E.dec 3) hx).trans (by rfl)))
  rw [hi]
  exact w2
theorem fact23 (x : Int) (hh : ∃ m, Shaped Try.prog E m 23 (E.enc 23 x)) : (Lit.int .i64 x).wf = true := by
  obtain ⟨m, h⟩ := hh
  generalize hx : E.enc 23 x = cs0 at h
  obtain ⟨n1, rfl, w2⟩ := shaped_int Try.underlying23 h
  have hi : x = n1 := Option.some.inj ((encDec23 x).symm.trans ((congrArg (E.dec 23) hx).trans (by rfl)))
  rw [hi]
  exact w2
theorem fact69 (x : Int × Int) (hh : ∃ m, Shaped Try.prog E m 69 (E.enc 69 x)) : (Lit.int .i64 x.1).wf = true ∧ (Lit.int .i64 x.2).wf = true := by
  obtain ⟨m, h⟩ := hh
  generalize hx : E.enc 69 x = cs0 at h
  obtain ⟨m1, p2, rfl, l3⟩ := shaped_struct Try.underlying69 h
  obtain ⟨p4, p5, rfl, s6, l7⟩ := shapedL_cons (t := 23) (ts := [23]) l3
  obtain ⟨p8, p9, rfl, s10, l11⟩ := shapedL_cons (t := 23) (ts := []) l7
  obtain rfl := shapedL_nil l11
  obtain ⟨n12, rfl, w13⟩ := shaped_int Try.underlying23 s6
  obtain ⟨n14, rfl, w15⟩ := shaped_int Try.underlying23 s10
  have hi : x = (n12, n14) := Option.some.inj ((encDec69 x).symm.trans ((congrArg (E.dec 69) hx).trans (by rfl)))
  rw [hi]
  exact ⟨w13, w15⟩
theorem comp : ∀ n e cs0, e ∈ [3, 23, 69] → Shaped Try.prog E n e cs0 → ∃ x, E.enc e x = cs0 := by
  intro n e cs0 he h
  simp only [List.mem_cons, List.not_mem_nil, or_false] at he
  rcases he with rfl | rfl | rfl
  · obtain ⟨n1, rfl, w2⟩ := shaped_int Try.underlying3 h
    exact ⟨(n1 : Int), rfl⟩
  · obtain ⟨n1, rfl, w2⟩ := shaped_int Try.underlying23 h
    exact ⟨(n1 : Int), rfl⟩
  · obtain ⟨m1, p2, rfl, l3⟩ := shaped_struct Try.underlying69 h
    obtain ⟨p4, p5, rfl, s6, l7⟩ := shapedL_cons (t := 23) (ts := [23]) l3
    obtain ⟨p8, p9, rfl, s10, l11⟩ := shapedL_cons (t := 23) (ts := []) l7
    obtain rfl := shapedL_nil l11
    obtain ⟨n12, rfl, w13⟩ := shaped_int Try.underlying23 s6
    obtain ⟨n14, rfl, w15⟩ := shaped_int Try.underlying23 s10
    exact ⟨((n12, n14) : Int × Int), rfl⟩
end Go.Proofs.Ytfhhpfhmplgndaa.Ev
namespace Go.Proofs.Ytfhhpfhmplgndaa.ghostAlong
open Go Ev
open Go.ChangeShapes Go.WideShapes Go.ChangeAt Go.RowKit
theorem own : ownKnob Try.prog.godebug = none := by kernel_rfl
theorem laidOut : laidOutB Try.prog = true := by kernel_rfl
set_option maxRecDepth 100000 in
theorem lifted (os : Os) (started : os.Started) (H : Type) (enc : TypeId × Value → H) :
    ReturnsInHanded {} Try.checked os 7 .any (Rows.ghostAlongSpec.pre6 enc Try.prog Try.f7 Rows.ghostAlongRow.domain false) (Rows.ghostAlongSpec.post enc Try.prog Try.f7 false true false false) := by
  refine returnsInHanded_of_change_sized (C := Try.checked) own started (by kernel_rfl) Try.func7
    (ChangeSpec.witness6 (enc := enc) (C := Try.checked) false ⟨#[], #[.slice none 0 0, .slice none 0 0, .agg #[.int .i64 0, .int .i64 0]], []⟩ 8 (by kernel_rfl) (by kernel_rfl) (by kernel_rfl) (by kernel_rfl)) ?_
  intro W base args ds gs before hval0 hW hcnd hsz0 _
  have hval : ∀ (j : Nat) t v, Try.f7.params[j]? = some t → args[j]? = some v → Value.okWide Try.prog W .any base t v := hval0
  have hW' := hW
  obtain ⟨p, q, hA0, hV, rfl, hfz, hnd⟩ := hW
  have hA : DataW.TrodAll enc Try.prog W 0 (fun _ => true) true Try.f7.params.toList args.toList ds p := hA0
  rw [Try.params7] at hA hval
  obtain ⟨v0, vs0, d0, ds0, p0, q0, hargs, rfl, rfl, h0, r0⟩ := trodAll_cons hA
  obtain ⟨v1, vs1, d1, ds1, p1, q1, rfl, rfl, rfl, h1, r1⟩ := trodAll_cons r0
  obtain ⟨v2, vs2, d2, ds2, p2, q2, rfl, rfl, rfl, h2, r2⟩ := trodAll_cons r1
  obtain ⟨rfl, rfl, rfl⟩ := trodAll_nil r2
  obtain rfl : args = #[v0, v1, v2] := by cases args; simp_all
  obtain ⟨rfl, rfl⟩ := trodVars_none hV
  have k0 := h0
  have lt0 : ∀ x ∈ p0, x.block < W.heap.size := by obtain ⟨m, hm⟩ := k0; exact DataW.trod_lt m _ _ _ hm
  have ce0 : v0.cells = #[v0] := by obtain ⟨a, l, c, rfl⟩ := okWide_slice Try.underlying67 (hval 0 67 v0 rfl rfl); rfl
  obtain ⟨t0, a0, sh0, re0⟩ := arg_one envOk comp (by kernel_rfl) ce0 h0
  obtain ⟨n101, e0, w102, f103⟩ := shaped_slice Try.underlying67 sh0
  obtain rfl := (List.cons.inj e0).1
  have k1 := h1
  have lt1 : ∀ x ∈ p1, x.block < W.heap.size := by obtain ⟨m, hm⟩ := k1; exact DataW.trod_lt m _ _ _ hm
  have ce1 : v1.cells = #[v1] := by obtain ⟨a, l, c, rfl⟩ := okWide_slice Try.underlying22 (hval 1 22 v1 rfl rfl); rfl
  obtain ⟨t1, a1, sh1, re1⟩ := arg_one envOk comp (by kernel_rfl) ce1 h1
  obtain ⟨n1101, e1, w1102, f1103⟩ := shaped_slice Try.underlying22 sh1
  obtain rfl := (List.cons.inj e1).1
  have k2 := h2
  have lt2 : ∀ x ∈ p2, x.block < W.heap.size := by obtain ⟨m, hm⟩ := k2; exact DataW.trod_lt m _ _ _ hm
  obtain ⟨t2, as2, sh2, re2⟩ := arg_agg envOk comp (by kernel_rfl) (by kernel_rfl) (hval 2 69 v2 rfl rfl) h2
  obtain ⟨m2101, p2102, rfl, l2103⟩ := shaped_struct Try.underlying69 sh2
  obtain ⟨p2104, p2105, rfl, s2106, l2107⟩ := shapedL_cons (t := 23) (ts := [23]) l2103
  obtain ⟨p2108, p2109, rfl, s2110, l2111⟩ := shapedL_cons (t := 23) (ts := []) l2107
  obtain rfl := shapedL_nil l2111
  obtain ⟨n2112, rfl, w2113⟩ := shaped_int Try.underlying23 s2106
  obtain ⟨n2114, rfl, w2115⟩ := shaped_int Try.underlying23 s2110
  clear hA0 hval0 hsz0
  refine (law_ok (vals := [v0, v1, v2]) (v := (n101, (n1101, (n2112, n2114)))) Try.func7 (by kernel_rfl) rfl ok7_0 (fun _ => rfl) rfl (law7_0 _ ⟨⟨w102, fun x hx => fact69 x (f103 x hx)⟩, ⟨w1102, fun x hx => fact23 x (f1103 x hx)⟩, ⟨w2113, w2115⟩⟩) (fun c hc => Reps.cons (re0 c hc) (Reps.cons (re1 c hc) (Reps.cons (re2 c hc) (Reps.nil _))))).mono fun e W' ⟨he, bel⟩ => ?_
  subst he
  exact ⟨_, rfl, _, _, _, [], _, [], hW', trodAll_mk1 (shut_bool Try.underlying4 _), (trodAll_cons_mk (Below.trod laidOut (by kernel_rfl) (of_decide_eq_true (by kernel_rfl)) k0 bel lt0) (trodAll_cons_mk (Below.trod laidOut (by kernel_rfl) (of_decide_eq_true (by kernel_rfl)) k1 bel lt1) (trodAll_cons_mk (Below.trod laidOut (by kernel_rfl) (of_decide_eq_true (by kernel_rfl)) k2 bel lt2) trodAll_mk0))), rfl, bel.frame _, fun h => by cases h⟩
theorem over : Rows.ghostAlongRow.holds Try.pinned (OpenSpec.ofChange Rows.ghostAlongSpec) :=
  OpenClaim.holds_of_wide 7 Try.f7 rfl rfl rfl rfl rfl rfl rfl ⟨rfl, rfl, rfl, rfl, rfl⟩ rfl rfl rfl rfl rfl (by kernel_rfl) Try.func7 (by kernel_rfl)
    (of_decide_eq_true (by kernel_rfl)) (by unfold Func.isWrapper; first | (rw [if_pos (by decide +kernel)]; kernel_rfl) | (rw [if_neg (by decide +kernel)]; exact ⟨rfl, rfl⟩))
    (fun os started H enc _ => lifted os started H enc)
end Go.Proofs.Ytfhhpfhmplgndaa.ghostAlong
namespace Go.Proofs.Ytfhhpfhmplgndaa
/-- GhostAlong: for every input the statement is true; the input reads behind as it did. -/
theorem ghostAlong_holds : Rows.GhostAlongSaid := ghostAlong.over
#print axioms ghostAlong_holds
end Go.Proofs.Ytfhhpfhmplgndaa
