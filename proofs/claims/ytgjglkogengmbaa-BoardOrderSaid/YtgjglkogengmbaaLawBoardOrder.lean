/- BoardOrder: for every input the statement is true. -/
import Derived.Test.YtgjglkogengmbaaRows
import Derived.Test.YtgjglkogengmbaaEvW
import Derived.Test.YtgjglkogengmbaaMBoard2
import Derived.WalkKit
import Derived.ProofKit
import Derived.OpenShut
import Derived.ShutString
import Derived.ChangeOld
import Derived.Below
import Derived.SizedLaws
set_option linter.unusedVariables false
set_option linter.unusedSimpArgs false
namespace Go.Proofs.Ytgjglkogengmbaa.Ev
open Go Go.RowKit
theorem encDec3 (x : Int) : E.dec 3 (E.enc 3 x) = some x := rfl
theorem encDec51 (x : Int) : E.dec 51 (E.enc 51 x) = some x := rfl
theorem encDec57 (x : Int × (List (Int × Bool)) × List Int) : E.dec 57 (E.enc 57 x) = some x := rfl
theorem encDec59 (x : Int × Bool) : E.dec 59 (E.enc 59 x) = some x := rfl
theorem fact3 (x : Int) (hh : ∃ m, Shaped Try.prog E m 3 (E.enc 3 x)) : (Lit.int .i64 x).wf = true := by
  obtain ⟨m, h⟩ := hh
  generalize hx : E.enc 3 x = cs0 at h
  obtain ⟨n1, rfl, w2⟩ := shaped_int Try.underlying3 h
  have hi : x = n1 := Option.some.inj ((encDec3 x).symm.trans ((congrArg (E.dec 3) hx).trans (by rfl)))
  rw [hi]
  exact w2
theorem fact51 (x : Int) (hh : ∃ m, Shaped Try.prog E m 51 (E.enc 51 x)) : (Lit.int .i64 x).wf = true := by
  obtain ⟨m, h⟩ := hh
  generalize hx : E.enc 51 x = cs0 at h
  obtain ⟨n1, rfl, w2⟩ := shaped_int Try.underlying51 h
  have hi : x = n1 := Option.some.inj ((encDec51 x).symm.trans ((congrArg (E.dec 51) hx).trans (by rfl)))
  rw [hi]
  exact w2
theorem fact59 (x : Int × Bool) (hh : ∃ m, Shaped Try.prog E m 59 (E.enc 59 x)) : (Lit.int .i64 x.1).wf = true := by
  obtain ⟨m, h⟩ := hh
  generalize hx : E.enc 59 x = cs0 at h
  obtain ⟨m1, p2, rfl, l3⟩ := shaped_struct Try.underlying59 h
  obtain ⟨p4, p5, rfl, s6, l7⟩ := shapedL_cons (t := 51) (ts := [4]) l3
  obtain ⟨p8, p9, rfl, s10, l11⟩ := shapedL_cons (t := 4) (ts := []) l7
  obtain rfl := shapedL_nil l11
  obtain ⟨n12, rfl, w13⟩ := shaped_int Try.underlying51 s6
  obtain ⟨n14, rfl⟩ := shaped_bool Try.underlying4 s10
  have hi : x = (n12, n14) := Option.some.inj ((encDec59 x).symm.trans ((congrArg (E.dec 59) hx).trans (by rfl)))
  rw [hi]
  exact w13
theorem fact57 (x : Int × (List (Int × Bool)) × List Int) (hh : ∃ m, Shaped Try.prog E m 57 (E.enc 57 x)) : (Lit.int .i64 x.1).wf = true ∧ (((x.2.1).length ≤ maxLen ∧ ∀ y ∈ x.2.1, (Lit.int .i64 y.1).wf = true)) ∧ (((x.2.2).length ≤ maxLen ∧ ∀ y ∈ x.2.2, (Lit.int .i64 y).wf = true)) := by
  obtain ⟨m, h⟩ := hh
  generalize hx : E.enc 57 x = cs0 at h
  obtain ⟨m1, p2, rfl, l3⟩ := shaped_struct Try.underlying57 h
  obtain ⟨p4, p5, rfl, s6, l7⟩ := shapedL_cons (t := 3) (ts := [54, 55]) l3
  obtain ⟨p8, p9, rfl, s10, l11⟩ := shapedL_cons (t := 54) (ts := [55]) l7
  obtain ⟨p12, p13, rfl, s14, l15⟩ := shapedL_cons (t := 55) (ts := []) l11
  obtain rfl := shapedL_nil l15
  obtain ⟨n16, rfl, w17⟩ := shaped_int Try.underlying3 s6
  obtain ⟨n18, rfl, w19, f20⟩ := shaped_slice Try.underlying54 s10
  obtain ⟨n21, rfl, w22, f23⟩ := shaped_slice Try.underlying55 s14
  have hi : x = (n16, (n18, n21)) := Option.some.inj ((encDec57 x).symm.trans ((congrArg (E.dec 57) hx).trans (by rfl)))
  rw [hi]
  exact ⟨w17, ⟨w19, fun x hx => fact59 x (f20 x hx)⟩, ⟨w22, fun x hx => fact51 x (f23 x hx)⟩⟩
theorem comp : ∀ n e cs0, e ∈ [3, 51, 57, 59] → Shaped Try.prog E n e cs0 → ∃ x, E.enc e x = cs0 := by
  intro n e cs0 he h
  simp only [List.mem_cons, List.not_mem_nil, or_false] at he
  rcases he with rfl | rfl | rfl | rfl
  · obtain ⟨n1, rfl, w2⟩ := shaped_int Try.underlying3 h
    exact ⟨(n1 : Int), rfl⟩
  · obtain ⟨n1, rfl, w2⟩ := shaped_int Try.underlying51 h
    exact ⟨(n1 : Int), rfl⟩
  · obtain ⟨m1, p2, rfl, l3⟩ := shaped_struct Try.underlying57 h
    obtain ⟨p4, p5, rfl, s6, l7⟩ := shapedL_cons (t := 3) (ts := [54, 55]) l3
    obtain ⟨p8, p9, rfl, s10, l11⟩ := shapedL_cons (t := 54) (ts := [55]) l7
    obtain ⟨p12, p13, rfl, s14, l15⟩ := shapedL_cons (t := 55) (ts := []) l11
    obtain rfl := shapedL_nil l15
    obtain ⟨n16, rfl, w17⟩ := shaped_int Try.underlying3 s6
    obtain ⟨n18, rfl, w19, f20⟩ := shaped_slice Try.underlying54 s10
    obtain ⟨n21, rfl, w22, f23⟩ := shaped_slice Try.underlying55 s14
    exact ⟨((n16, (n18, n21)) : Int × (List (Int × Bool)) × List Int), rfl⟩
  · obtain ⟨m1, p2, rfl, l3⟩ := shaped_struct Try.underlying59 h
    obtain ⟨p4, p5, rfl, s6, l7⟩ := shapedL_cons (t := 51) (ts := [4]) l3
    obtain ⟨p8, p9, rfl, s10, l11⟩ := shapedL_cons (t := 4) (ts := []) l7
    obtain rfl := shapedL_nil l11
    obtain ⟨n12, rfl, w13⟩ := shaped_int Try.underlying51 s6
    obtain ⟨n14, rfl⟩ := shaped_bool Try.underlying4 s10
    exact ⟨((n12, n14) : Int × Bool), rfl⟩
end Go.Proofs.Ytgjglkogengmbaa.Ev
namespace Go.Proofs.Ytgjglkogengmbaa.boardOrder
open Go Ev
open Go.ChangeShapes Go.WideShapes Go.ChangeAt Go.RowKit
theorem own : ownKnob Try.prog.godebug = none := by kernel_rfl
theorem laidOut : laidOutB Try.prog = true := by kernel_rfl
set_option maxRecDepth 100000 in
theorem lifted (os : Os) (started : os.Started) (H : Type) (enc : TypeId × Value → H) :
    ReturnsInHanded {} Try.checked os 6 .any (Rows.boardOrderSpec.pre6 enc Try.prog Try.f6 Rows.boardOrderRow.domain false) (Rows.boardOrderSpec.post enc Try.prog Try.f6 false true false false) := by
  refine returnsInHanded_of_change_sized (C := Try.checked) own started (by kernel_rfl) Try.func6
    (ChangeSpec.witness6 (enc := enc) (C := Try.checked) false ⟨#[], #[.slice none 0 0], []⟩ 8 (by kernel_rfl) (by kernel_rfl) (by kernel_rfl) (by kernel_rfl)) ?_
  intro W base args ds gs before hval0 hW hcnd hsz0 _
  have hval : ∀ (j : Nat) t v, Try.f6.params[j]? = some t → args[j]? = some v → Value.okWide Try.prog W .any base t v := hval0
  have hW' := hW
  obtain ⟨p, q, hA0, hV, rfl, hfz, hnd⟩ := hW
  have hA : DataW.TrodAll enc Try.prog W 0 (fun _ => true) true Try.f6.params.toList args.toList ds p := hA0
  rw [Try.params6] at hA hval
  obtain ⟨v0, vs0, d0, ds0, p0, q0, hargs, rfl, rfl, h0, r0⟩ := trodAll_cons hA
  obtain ⟨rfl, rfl, rfl⟩ := trodAll_nil r0
  obtain rfl : args = #[v0] := by cases args; simp_all
  obtain ⟨rfl, rfl⟩ := trodVars_none hV
  have k0 := h0
  have lt0 : ∀ x ∈ p0, x.block < W.heap.size := by obtain ⟨m, hm⟩ := k0; exact DataW.trod_lt m _ _ _ hm
  have ce0 : v0.cells = #[v0] := by obtain ⟨a, l, c, rfl⟩ := okWide_slice Try.underlying47 (hval 0 47 v0 rfl rfl); rfl
  obtain ⟨t0, a0, sh0, re0⟩ := arg_one envOk comp (by kernel_rfl) ce0 h0
  obtain ⟨n101, e0, w102, f103⟩ := shaped_slice Try.underlying47 sh0
  obtain rfl := (List.cons.inj e0).1
  clear hA0 hval0 hsz0
  refine (law_ok (vals := [v0]) (v := n101) Try.func6 (by kernel_rfl) rfl ok6_0 (fun _ => rfl) rfl (law6_0 _ ⟨w102, fun x hx => fact57 x (f103 x hx)⟩) (fun c hc => Reps.cons (re0 c hc) (Reps.nil _))).mono fun e W' ⟨he, bel⟩ => ?_
  subst he
  exact ⟨_, rfl, _, _, _, [], _, [], hW', trodAll_mk1 (shut_bool Try.underlying4 _), (trodAll_cons_mk (Below.trod laidOut (by kernel_rfl) (of_decide_eq_true (by kernel_rfl)) k0 bel lt0) trodAll_mk0), rfl, bel.frame _, fun h => by cases h⟩
theorem over : Rows.boardOrderRow.holds Try.pinned (OpenSpec.ofChange Rows.boardOrderSpec) :=
  OpenClaim.holds_of_wide 6 Try.f6 rfl rfl rfl rfl rfl rfl rfl ⟨rfl, rfl, rfl, rfl, rfl⟩ rfl rfl rfl rfl rfl (by kernel_rfl) Try.func6 (by kernel_rfl)
    (of_decide_eq_true (by kernel_rfl)) (by unfold Func.isWrapper; first | (rw [if_pos (by decide +kernel)]; kernel_rfl) | (rw [if_neg (by decide +kernel)]; exact ⟨rfl, rfl⟩))
    (fun os started H enc _ => lifted os started H enc)
end Go.Proofs.Ytgjglkogengmbaa.boardOrder
namespace Go.Proofs.Ytgjglkogengmbaa
/-- BoardOrder: for every input the statement is true; the input reads behind as it did. -/
theorem boardOrder_holds : Rows.BoardOrderSaid := boardOrder.over
#print axioms boardOrder_holds
end Go.Proofs.Ytgjglkogengmbaa
