/- ProfileBend: for every input the statement is true. -/
import Derived.Test.YtbmbnopgekbppaaRows
import Derived.Test.YtbmbnopgekbppaaEvW
import Derived.Test.YtbmbnopgekbppaaMProfBend
import Derived.WalkKit
import Derived.ProofKit
import Derived.OpenShut
import Derived.ShutString
import Derived.ChangeOld
import Derived.Below
import Derived.SizedLaws
set_option linter.unusedVariables false
set_option linter.unusedSimpArgs false
namespace Go.Proofs.Ytbmbnopgekbppaa.Ev
open Go Go.RowKit
theorem encDec22 (x : Int) : E.dec 22 (E.enc 22 x) = some x := rfl
theorem encDec24 (x : Int × Int) : E.dec 24 (E.enc 24 x) = some x := rfl
theorem fact22 (x : Int) (hh : ∃ m, Shaped Try.prog E m 22 (E.enc 22 x)) : (Lit.int .i64 x).wf = true := by
  obtain ⟨m, h⟩ := hh
  generalize hx : E.enc 22 x = cs0 at h
  obtain ⟨n1, rfl, w2⟩ := shaped_int Try.underlying22 h
  have hi : x = n1 := Option.some.inj ((encDec22 x).symm.trans ((congrArg (E.dec 22) hx).trans (by rfl)))
  rw [hi]
  exact w2
theorem fact24 (x : Int × Int) (hh : ∃ m, Shaped Try.prog E m 24 (E.enc 24 x)) : (Lit.int .i64 x.1).wf = true ∧ (Lit.int .i64 x.2).wf = true := by
  obtain ⟨m, h⟩ := hh
  generalize hx : E.enc 24 x = cs0 at h
  obtain ⟨m1, p2, rfl, l3⟩ := shaped_struct Try.underlying24 h
  obtain ⟨p4, p5, rfl, s6, l7⟩ := shapedL_cons (t := 22) (ts := [22]) l3
  obtain ⟨p8, p9, rfl, s10, l11⟩ := shapedL_cons (t := 22) (ts := []) l7
  obtain rfl := shapedL_nil l11
  obtain ⟨n12, rfl, w13⟩ := shaped_int Try.underlying22 s6
  obtain ⟨n14, rfl, w15⟩ := shaped_int Try.underlying22 s10
  have hi : x = (n12, n14) := Option.some.inj ((encDec24 x).symm.trans ((congrArg (E.dec 24) hx).trans (by rfl)))
  rw [hi]
  exact ⟨w13, w15⟩
theorem comp : ∀ n e cs0, e ∈ [22, 24] → Shaped Try.prog E n e cs0 → ∃ x, E.enc e x = cs0 := by
  intro n e cs0 he h
  simp only [List.mem_cons, List.not_mem_nil, or_false] at he
  rcases he with rfl | rfl
  · obtain ⟨n1, rfl, w2⟩ := shaped_int Try.underlying22 h
    exact ⟨(n1 : Int), rfl⟩
  · obtain ⟨m1, p2, rfl, l3⟩ := shaped_struct Try.underlying24 h
    obtain ⟨p4, p5, rfl, s6, l7⟩ := shapedL_cons (t := 22) (ts := [22]) l3
    obtain ⟨p8, p9, rfl, s10, l11⟩ := shapedL_cons (t := 22) (ts := []) l7
    obtain rfl := shapedL_nil l11
    obtain ⟨n12, rfl, w13⟩ := shaped_int Try.underlying22 s6
    obtain ⟨n14, rfl, w15⟩ := shaped_int Try.underlying22 s10
    exact ⟨((n12, n14) : Int × Int), rfl⟩
end Go.Proofs.Ytbmbnopgekbppaa.Ev
namespace Go.Proofs.Ytbmbnopgekbppaa.profileBend
open Go Ev
open Go.ChangeShapes Go.WideShapes Go.ChangeAt Go.RowKit
theorem own : ownKnob Try.prog.godebug = none := by kernel_rfl
theorem laidOut : laidOutB Try.prog = true := by kernel_rfl
set_option maxRecDepth 100000 in
theorem lifted (os : Os) (started : os.Started) (H : Type) (enc : TypeId × Value → H) :
    ReturnsInHanded {} Try.checked os 3 .any (Rows.profileBendSpec.pre6 enc Try.prog Try.f3 Rows.profileBendRow.domain false) (Rows.profileBendSpec.post enc Try.prog Try.f3 false true false false) := by
  refine returnsInHanded_of_change_sized (C := Try.checked) own started (by kernel_rfl) Try.func3
    (ChangeSpec.witness6 (enc := enc) (C := Try.checked) false ⟨#[], #[.agg #[.int .i64 0, .int .i64 0, .int .i64 0, .int .i64 0, .int .i64 0, .int .i64 0], .agg #[.int .i64 0, .int .i64 0, .int .i64 0]], []⟩ 8 (by kernel_rfl) (by kernel_rfl) (by kernel_rfl) (by kernel_rfl)) ?_
  intro W base args ds gs before hval0 hW hcnd hsz0 _
  have hval : ∀ (j : Nat) t v, Try.f3.params[j]? = some t → args[j]? = some v → Value.okWide Try.prog W .any base t v := hval0
  have hW' := hW
  obtain ⟨p, q, hA0, hV, rfl, hfz, hnd⟩ := hW
  have hA : DataW.TrodAll enc Try.prog W 0 (fun _ => true) true Try.f3.params.toList args.toList ds p := hA0
  rw [Try.params3] at hA hval
  obtain ⟨v0, vs0, d0, ds0, p0, q0, hargs, rfl, rfl, h0, r0⟩ := trodAll_cons hA
  obtain ⟨v1, vs1, d1, ds1, p1, q1, rfl, rfl, rfl, h1, r1⟩ := trodAll_cons r0
  obtain ⟨rfl, rfl, rfl⟩ := trodAll_nil r1
  obtain rfl : args = #[v0, v1] := by cases args; simp_all
  obtain ⟨rfl, rfl⟩ := trodVars_none hV
  have k0 := h0
  have lt0 : ∀ x ∈ p0, x.block < W.heap.size := by obtain ⟨m, hm⟩ := k0; exact DataW.trod_lt m _ _ _ hm
  obtain ⟨t0, as0, sh0, re0⟩ := arg_agg envOk comp (by kernel_rfl) (by kernel_rfl) (hval 0 25 v0 rfl rfl) h0
  obtain ⟨m101, p102, rfl, l103⟩ := shaped_array Try.underlying25 sh0
  obtain ⟨p104, p105, rfl, s106, l107⟩ := shapedL_cons (t := 24) (ts := [24, 24]) l103
  obtain ⟨p108, p109, rfl, s110, l111⟩ := shapedL_cons (t := 24) (ts := [24]) l107
  obtain ⟨p112, p113, rfl, s114, l115⟩ := shapedL_cons (t := 24) (ts := []) l111
  obtain rfl := shapedL_nil l115
  obtain ⟨m116, p117, rfl, l118⟩ := shaped_struct Try.underlying24 s106
  obtain ⟨p119, p120, rfl, s121, l122⟩ := shapedL_cons (t := 22) (ts := [22]) l118
  obtain ⟨p123, p124, rfl, s125, l126⟩ := shapedL_cons (t := 22) (ts := []) l122
  obtain rfl := shapedL_nil l126
  obtain ⟨n127, rfl, w128⟩ := shaped_int Try.underlying22 s121
  obtain ⟨n129, rfl, w130⟩ := shaped_int Try.underlying22 s125
  obtain ⟨m131, p132, rfl, l133⟩ := shaped_struct Try.underlying24 s110
  obtain ⟨p134, p135, rfl, s136, l137⟩ := shapedL_cons (t := 22) (ts := [22]) l133
  obtain ⟨p138, p139, rfl, s140, l141⟩ := shapedL_cons (t := 22) (ts := []) l137
  obtain rfl := shapedL_nil l141
  obtain ⟨n142, rfl, w143⟩ := shaped_int Try.underlying22 s136
  obtain ⟨n144, rfl, w145⟩ := shaped_int Try.underlying22 s140
  obtain ⟨m146, p147, rfl, l148⟩ := shaped_struct Try.underlying24 s114
  obtain ⟨p149, p150, rfl, s151, l152⟩ := shapedL_cons (t := 22) (ts := [22]) l148
  obtain ⟨p153, p154, rfl, s155, l156⟩ := shapedL_cons (t := 22) (ts := []) l152
  obtain rfl := shapedL_nil l156
  obtain ⟨n157, rfl, w158⟩ := shaped_int Try.underlying22 s151
  obtain ⟨n159, rfl, w160⟩ := shaped_int Try.underlying22 s155
  have k1 := h1
  have lt1 : ∀ x ∈ p1, x.block < W.heap.size := by obtain ⟨m, hm⟩ := k1; exact DataW.trod_lt m _ _ _ hm
  obtain ⟨t1, as1, sh1, re1⟩ := arg_agg envOk comp (by kernel_rfl) (by kernel_rfl) (hval 1 26 v1 rfl rfl) h1
  obtain ⟨m1101, p1102, rfl, l1103⟩ := shaped_array Try.underlying26 sh1
  obtain ⟨p1104, p1105, rfl, s1106, l1107⟩ := shapedL_cons (t := 22) (ts := [22, 22]) l1103
  obtain ⟨p1108, p1109, rfl, s1110, l1111⟩ := shapedL_cons (t := 22) (ts := [22]) l1107
  obtain ⟨p1112, p1113, rfl, s1114, l1115⟩ := shapedL_cons (t := 22) (ts := []) l1111
  obtain rfl := shapedL_nil l1115
  obtain ⟨n1116, rfl, w1117⟩ := shaped_int Try.underlying22 s1106
  obtain ⟨n1118, rfl, w1119⟩ := shaped_int Try.underlying22 s1110
  obtain ⟨n1120, rfl, w1121⟩ := shaped_int Try.underlying22 s1114
  clear hA0 hval0 hsz0
  refine (law_ok (vals := [v0, v1]) (v := ((n127, (n129, (n142, (n144, (n157, n159))))), (n1116, (n1118, n1120)))) Try.func3 (by kernel_rfl) rfl ok3_0 (fun _ => rfl) rfl (law3_0 _ ⟨⟨w128, w130, w143, w145, w158, w160⟩, ⟨w1117, w1119, w1121⟩⟩) (fun c hc => Reps.cons (re0 c hc) (Reps.cons (re1 c hc) (Reps.nil _)))).mono fun e W' ⟨he, bel⟩ => ?_
  subst he
  exact ⟨_, rfl, _, _, _, [], _, [], hW', trodAll_mk1 (shut_bool Try.underlying4 _), (trodAll_cons_mk (Below.trod laidOut (by kernel_rfl) (of_decide_eq_true (by kernel_rfl)) k0 bel lt0) (trodAll_cons_mk (Below.trod laidOut (by kernel_rfl) (of_decide_eq_true (by kernel_rfl)) k1 bel lt1) trodAll_mk0)), rfl, bel.frame _, fun h => by cases h⟩
theorem over : Rows.profileBendRow.holds Try.pinned (OpenSpec.ofChange Rows.profileBendSpec) :=
  OpenClaim.holds_of_wide 3 Try.f3 rfl rfl rfl rfl rfl rfl rfl ⟨rfl, rfl, rfl, rfl, rfl⟩ rfl rfl rfl rfl rfl (by kernel_rfl) Try.func3 (by kernel_rfl)
    (of_decide_eq_true (by kernel_rfl)) (by unfold Func.isWrapper; first | (rw [if_pos (by decide +kernel)]; kernel_rfl) | (rw [if_neg (by decide +kernel)]; exact ⟨rfl, rfl⟩))
    (fun os started H enc _ => lifted os started H enc)
end Go.Proofs.Ytbmbnopgekbppaa.profileBend
namespace Go.Proofs.Ytbmbnopgekbppaa
/-- ProfileBend: for every input the statement is true; the input reads behind as it did. -/
theorem profileBend_holds : Rows.ProfileBendSaid := profileBend.over
#print axioms profileBend_holds
end Go.Proofs.Ytbmbnopgekbppaa
