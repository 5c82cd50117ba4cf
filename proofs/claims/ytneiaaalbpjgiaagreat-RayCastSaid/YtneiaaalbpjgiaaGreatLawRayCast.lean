/- RayCast: for every input the statement is true. -/
import Derived.Test.YtneiaaalbpjgiaaGreatRows
import Derived.Test.YtneiaaalbpjgiaaGreatEvW
import Derived.Test.YtneiaaalbpjgiaaGreatMRayCast
import Derived.WalkKit
import Derived.ProofKit
import Derived.OpenShut
import Derived.ShutString
import Derived.ChangeOld
import Derived.Below
import Derived.SizedLaws
set_option linter.unusedVariables false
set_option linter.unusedSimpArgs false
namespace Go.Proofs.YtneiaaalbpjgiaaGreat.Ev
open Go Go.RowKit
theorem encDec3 (x : Int) : E.dec 3 (E.enc 3 x) = some x := rfl
theorem encDec22 (x : Int) : E.dec 22 (E.enc 22 x) = some x := rfl
theorem encDec24 (x : Int × Int) : E.dec 24 (E.enc 24 x) = some x := rfl
theorem encDec28 (x : List (Int × Int)) : E.dec 28 (E.enc 28 x) = some x := rfl
theorem encDec64 (x : Int × Int × Bool) : E.dec 64 (E.enc 64 x) = some x := rfl
theorem encDec187 (x : Int × Int × Int × Int × Bool) : E.dec 187 (E.enc 187 x) = some x := rfl
theorem fact3 (x : Int) (hh : ∃ m, Shaped Tryz.prog E m 3 (E.enc 3 x)) : (Lit.int .i64 x).wf = true := by
  obtain ⟨m, h⟩ := hh
  generalize hx : E.enc 3 x = cs0 at h
  obtain ⟨n1, rfl, w2⟩ := shaped_int Tryz.underlying3 h
  have hi : x = n1 := Option.some.inj ((encDec3 x).symm.trans ((congrArg (E.dec 3) hx).trans (by rfl)))
  rw [hi]
  exact w2
theorem fact22 (x : Int) (hh : ∃ m, Shaped Tryz.prog E m 22 (E.enc 22 x)) : (Lit.int .i64 x).wf = true := by
  obtain ⟨m, h⟩ := hh
  generalize hx : E.enc 22 x = cs0 at h
  obtain ⟨n1, rfl, w2⟩ := shaped_int Tryz.underlying22 h
  have hi : x = n1 := Option.some.inj ((encDec22 x).symm.trans ((congrArg (E.dec 22) hx).trans (by rfl)))
  rw [hi]
  exact w2
theorem fact24 (x : Int × Int) (hh : ∃ m, Shaped Tryz.prog E m 24 (E.enc 24 x)) : (Lit.int .i64 x.1).wf = true ∧ (Lit.int .i64 x.2).wf = true := by
  obtain ⟨m, h⟩ := hh
  generalize hx : E.enc 24 x = cs0 at h
  obtain ⟨m1, p2, rfl, l3⟩ := shaped_struct Tryz.underlying24 h
  obtain ⟨p4, p5, rfl, s6, l7⟩ := shapedL_cons (t := 22) (ts := [22]) l3
  obtain ⟨p8, p9, rfl, s10, l11⟩ := shapedL_cons (t := 22) (ts := []) l7
  obtain rfl := shapedL_nil l11
  obtain ⟨n12, rfl, w13⟩ := shaped_int Tryz.underlying22 s6
  obtain ⟨n14, rfl, w15⟩ := shaped_int Tryz.underlying22 s10
  have hi : x = (n12, n14) := Option.some.inj ((encDec24 x).symm.trans ((congrArg (E.dec 24) hx).trans (by rfl)))
  rw [hi]
  exact ⟨w13, w15⟩
theorem fact28 (x : List (Int × Int)) (hh : ∃ m, Shaped Tryz.prog E m 28 (E.enc 28 x)) : (((x).length ≤ maxLen ∧ ∀ y ∈ x, (Lit.int .i64 y.1).wf = true ∧ (Lit.int .i64 y.2).wf = true)) := by
  obtain ⟨m, h⟩ := hh
  generalize hx : E.enc 28 x = cs0 at h
  obtain ⟨n1, rfl, w2, f3⟩ := shaped_slice Tryz.underlying28 h
  have hi : x = n1 := Option.some.inj ((encDec28 x).symm.trans ((congrArg (E.dec 28) hx).trans (by rfl)))
  rw [hi]
  exact ⟨w2, fun x hx => fact24 x (f3 x hx)⟩
theorem fact64 (x : Int × Int × Bool) (hh : ∃ m, Shaped Tryz.prog E m 64 (E.enc 64 x)) : (Lit.int .i64 x.1).wf = true ∧ (Lit.int .i64 x.2.1).wf = true := by
  obtain ⟨m, h⟩ := hh
  generalize hx : E.enc 64 x = cs0 at h
  obtain ⟨m1, p2, rfl, l3⟩ := shaped_struct Tryz.underlying64 h
  obtain ⟨p4, p5, rfl, s6, l7⟩ := shapedL_cons (t := 22) (ts := [22, 4]) l3
  obtain ⟨p8, p9, rfl, s10, l11⟩ := shapedL_cons (t := 22) (ts := [4]) l7
  obtain ⟨p12, p13, rfl, s14, l15⟩ := shapedL_cons (t := 4) (ts := []) l11
  obtain rfl := shapedL_nil l15
  obtain ⟨n16, rfl, w17⟩ := shaped_int Tryz.underlying22 s6
  obtain ⟨n18, rfl, w19⟩ := shaped_int Tryz.underlying22 s10
  obtain ⟨n20, rfl⟩ := shaped_bool Tryz.underlying4 s14
  have hi : x = (n16, (n18, n20)) := Option.some.inj ((encDec64 x).symm.trans ((congrArg (E.dec 64) hx).trans (by rfl)))
  rw [hi]
  exact ⟨w17, w19⟩
theorem fact187 (x : Int × Int × Int × Int × Bool) (hh : ∃ m, Shaped Tryz.prog E m 187 (E.enc 187 x)) : (Lit.int .i64 x.1).wf = true ∧ (Lit.int .i64 x.2.1).wf = true ∧ (Lit.int .i64 x.2.2.1).wf = true ∧ (Lit.int .i64 x.2.2.2.1).wf = true := by
  obtain ⟨m, h⟩ := hh
  generalize hx : E.enc 187 x = cs0 at h
  obtain ⟨m1, p2, rfl, l3⟩ := shaped_struct Tryz.underlying187 h
  obtain ⟨p4, p5, rfl, s6, l7⟩ := shapedL_cons (t := 24) (ts := [24, 4]) l3
  obtain ⟨p8, p9, rfl, s10, l11⟩ := shapedL_cons (t := 24) (ts := [4]) l7
  obtain ⟨p12, p13, rfl, s14, l15⟩ := shapedL_cons (t := 4) (ts := []) l11
  obtain rfl := shapedL_nil l15
  obtain ⟨m16, p17, rfl, l18⟩ := shaped_struct Tryz.underlying24 s6
  obtain ⟨p19, p20, rfl, s21, l22⟩ := shapedL_cons (t := 22) (ts := [22]) l18
  obtain ⟨p23, p24, rfl, s25, l26⟩ := shapedL_cons (t := 22) (ts := []) l22
  obtain rfl := shapedL_nil l26
  obtain ⟨n27, rfl, w28⟩ := shaped_int Tryz.underlying22 s21
  obtain ⟨n29, rfl, w30⟩ := shaped_int Tryz.underlying22 s25
  obtain ⟨m31, p32, rfl, l33⟩ := shaped_struct Tryz.underlying24 s10
  obtain ⟨p34, p35, rfl, s36, l37⟩ := shapedL_cons (t := 22) (ts := [22]) l33
  obtain ⟨p38, p39, rfl, s40, l41⟩ := shapedL_cons (t := 22) (ts := []) l37
  obtain rfl := shapedL_nil l41
  obtain ⟨n42, rfl, w43⟩ := shaped_int Tryz.underlying22 s36
  obtain ⟨n44, rfl, w45⟩ := shaped_int Tryz.underlying22 s40
  obtain ⟨n46, rfl⟩ := shaped_bool Tryz.underlying4 s14
  have hi : x = (n27, (n29, (n42, (n44, n46)))) := Option.some.inj ((encDec187 x).symm.trans ((congrArg (E.dec 187) hx).trans (by rfl)))
  rw [hi]
  exact ⟨w28, w30, w43, w45⟩
theorem comp : ∀ n e cs0, e ∈ [3, 22, 24, 28, 64, 187] → Shaped Tryz.prog E n e cs0 → ∃ x, E.enc e x = cs0 := by
  intro n e cs0 he h
  simp only [List.mem_cons, List.not_mem_nil, or_false] at he
  rcases he with rfl | rfl | rfl | rfl | rfl | rfl
  · obtain ⟨n1, rfl, w2⟩ := shaped_int Tryz.underlying3 h
    exact ⟨(n1 : Int), rfl⟩
  · obtain ⟨n1, rfl, w2⟩ := shaped_int Tryz.underlying22 h
    exact ⟨(n1 : Int), rfl⟩
  · obtain ⟨m1, p2, rfl, l3⟩ := shaped_struct Tryz.underlying24 h
    obtain ⟨p4, p5, rfl, s6, l7⟩ := shapedL_cons (t := 22) (ts := [22]) l3
    obtain ⟨p8, p9, rfl, s10, l11⟩ := shapedL_cons (t := 22) (ts := []) l7
    obtain rfl := shapedL_nil l11
    obtain ⟨n12, rfl, w13⟩ := shaped_int Tryz.underlying22 s6
    obtain ⟨n14, rfl, w15⟩ := shaped_int Tryz.underlying22 s10
    exact ⟨((n12, n14) : Int × Int), rfl⟩
  · obtain ⟨n1, rfl, w2, f3⟩ := shaped_slice Tryz.underlying28 h
    exact ⟨(n1 : List (Int × Int)), rfl⟩
  · obtain ⟨m1, p2, rfl, l3⟩ := shaped_struct Tryz.underlying64 h
    obtain ⟨p4, p5, rfl, s6, l7⟩ := shapedL_cons (t := 22) (ts := [22, 4]) l3
    obtain ⟨p8, p9, rfl, s10, l11⟩ := shapedL_cons (t := 22) (ts := [4]) l7
    obtain ⟨p12, p13, rfl, s14, l15⟩ := shapedL_cons (t := 4) (ts := []) l11
    obtain rfl := shapedL_nil l15
    obtain ⟨n16, rfl, w17⟩ := shaped_int Tryz.underlying22 s6
    obtain ⟨n18, rfl, w19⟩ := shaped_int Tryz.underlying22 s10
    obtain ⟨n20, rfl⟩ := shaped_bool Tryz.underlying4 s14
    exact ⟨((n16, (n18, n20)) : Int × Int × Bool), rfl⟩
  · obtain ⟨m1, p2, rfl, l3⟩ := shaped_struct Tryz.underlying187 h
    obtain ⟨p4, p5, rfl, s6, l7⟩ := shapedL_cons (t := 24) (ts := [24, 4]) l3
    obtain ⟨p8, p9, rfl, s10, l11⟩ := shapedL_cons (t := 24) (ts := [4]) l7
    obtain ⟨p12, p13, rfl, s14, l15⟩ := shapedL_cons (t := 4) (ts := []) l11
    obtain rfl := shapedL_nil l15
    obtain ⟨m16, p17, rfl, l18⟩ := shaped_struct Tryz.underlying24 s6
    obtain ⟨p19, p20, rfl, s21, l22⟩ := shapedL_cons (t := 22) (ts := [22]) l18
    obtain ⟨p23, p24, rfl, s25, l26⟩ := shapedL_cons (t := 22) (ts := []) l22
    obtain rfl := shapedL_nil l26
    obtain ⟨n27, rfl, w28⟩ := shaped_int Tryz.underlying22 s21
    obtain ⟨n29, rfl, w30⟩ := shaped_int Tryz.underlying22 s25
    obtain ⟨m31, p32, rfl, l33⟩ := shaped_struct Tryz.underlying24 s10
    obtain ⟨p34, p35, rfl, s36, l37⟩ := shapedL_cons (t := 22) (ts := [22]) l33
    obtain ⟨p38, p39, rfl, s40, l41⟩ := shapedL_cons (t := 22) (ts := []) l37
    obtain rfl := shapedL_nil l41
    obtain ⟨n42, rfl, w43⟩ := shaped_int Tryz.underlying22 s36
    obtain ⟨n44, rfl, w45⟩ := shaped_int Tryz.underlying22 s40
    obtain ⟨n46, rfl⟩ := shaped_bool Tryz.underlying4 s14
    exact ⟨((n27, (n29, (n42, (n44, n46)))) : Int × Int × Int × Int × Bool), rfl⟩
end Go.Proofs.YtneiaaalbpjgiaaGreat.Ev
namespace Go.Proofs.YtneiaaalbpjgiaaGreat.rayCast
open Go Ev
open Go.ChangeShapes Go.WideShapes Go.ChangeAt Go.RowKit
theorem own : ownKnob Tryz.prog.godebug = none := by kernel_rfl
theorem laidOut : laidOutB Tryz.prog = true := by kernel_rfl
set_option maxRecDepth 100000 in
theorem lifted (os : Os) (started : os.Started) (H : Type) (enc : TypeId × Value → H) :
    ReturnsInHanded {} Tryz.checked os 3 .any (Rows.rayCastSpec.pre6 enc Tryz.prog Tryz.f3 Rows.rayCastRow.domain false) (Rows.rayCastSpec.post enc Tryz.prog Tryz.f3 false true false false) := by
  refine returnsInHanded_of_change_sized (C := Tryz.checked) own started (by kernel_rfl) Tryz.func3
    (ChangeSpec.witness6 (enc := enc) (C := Tryz.checked) false ⟨#[], #[.agg #[.int .i64 0, .int .i64 0, .int .i64 0, .int .i64 0, .int .i64 0, .int .i64 0, .slice none 0 0, .slice none 0 0, .slice none 0 0, .slice none 0 0, .slice none 0 0, .slice none 0 0, .int .i64 0, .int .i64 0, .int .u32 0, .int .i64 0], .agg #[.int .i64 0, .int .i64 0, .int .i64 0, .int .i64 0, .int .i64 0, .int .i64 0, .int .i64 0]], []⟩ 8 (by kernel_rfl) (by kernel_rfl) (by kernel_rfl) (by kernel_rfl)) ?_
  intro W base args ds gs before hval0 hW hcnd hsz0 _
  have hval : ∀ (j : Nat) t v, Tryz.f3.params[j]? = some t → args[j]? = some v → Value.okWide Tryz.prog W .any base t v := hval0
  have hW' := hW
  obtain ⟨p, q, hA0, hV, rfl, hfz, hnd⟩ := hW
  have hA : DataW.TrodAll enc Tryz.prog W 0 (fun _ => true) true Tryz.f3.params.toList args.toList ds p := hA0
  rw [Tryz.params3] at hA hval
  obtain ⟨v0, vs0, d0, ds0, p0, q0, hargs, rfl, rfl, h0, r0⟩ := trodAll_cons hA
  obtain ⟨v1, vs1, d1, ds1, p1, q1, rfl, rfl, rfl, h1, r1⟩ := trodAll_cons r0
  obtain ⟨rfl, rfl, rfl⟩ := trodAll_nil r1
  obtain rfl : args = #[v0, v1] := by cases args; simp_all
  obtain ⟨rfl, rfl⟩ := trodVars_none hV
  have k0 := h0
  have lt0 : ∀ x ∈ p0, x.block < W.heap.size := by obtain ⟨m, hm⟩ := k0; exact DataW.trod_lt m _ _ _ hm
  obtain ⟨t0, as0, sh0, re0⟩ := arg_agg envOk comp (by kernel_rfl) (by kernel_rfl) (hval 0 34 v0 rfl rfl) h0
  obtain ⟨m101, p102, rfl, l103⟩ := shaped_struct Tryz.underlying34 sh0
  obtain ⟨p104, p105, rfl, s106, l107⟩ := shapedL_cons (t := 3) (ts := [22, 3, 3, 24, 25, 26, 27, 28, 29, 30, 24, 32, 3]) l103
  obtain ⟨p108, p109, rfl, s110, l111⟩ := shapedL_cons (t := 22) (ts := [3, 3, 24, 25, 26, 27, 28, 29, 30, 24, 32, 3]) l107
  obtain ⟨p112, p113, rfl, s114, l115⟩ := shapedL_cons (t := 3) (ts := [3, 24, 25, 26, 27, 28, 29, 30, 24, 32, 3]) l111
  obtain ⟨p116, p117, rfl, s118, l119⟩ := shapedL_cons (t := 3) (ts := [24, 25, 26, 27, 28, 29, 30, 24, 32, 3]) l115
  obtain ⟨p120, p121, rfl, s122, l123⟩ := shapedL_cons (t := 24) (ts := [25, 26, 27, 28, 29, 30, 24, 32, 3]) l119
  obtain ⟨p124, p125, rfl, s126, l127⟩ := shapedL_cons (t := 25) (ts := [26, 27, 28, 29, 30, 24, 32, 3]) l123
  obtain ⟨p128, p129, rfl, s130, l131⟩ := shapedL_cons (t := 26) (ts := [27, 28, 29, 30, 24, 32, 3]) l127
  obtain ⟨p132, p133, rfl, s134, l135⟩ := shapedL_cons (t := 27) (ts := [28, 29, 30, 24, 32, 3]) l131
  obtain ⟨p136, p137, rfl, s138, l139⟩ := shapedL_cons (t := 28) (ts := [29, 30, 24, 32, 3]) l135
  obtain ⟨p140, p141, rfl, s142, l143⟩ := shapedL_cons (t := 29) (ts := [30, 24, 32, 3]) l139
  obtain ⟨p144, p145, rfl, s146, l147⟩ := shapedL_cons (t := 30) (ts := [24, 32, 3]) l143
  obtain ⟨p148, p149, rfl, s150, l151⟩ := shapedL_cons (t := 24) (ts := [32, 3]) l147
  obtain ⟨p152, p153, rfl, s154, l155⟩ := shapedL_cons (t := 32) (ts := [3]) l151
  obtain ⟨p156, p157, rfl, s158, l159⟩ := shapedL_cons (t := 3) (ts := []) l155
  obtain rfl := shapedL_nil l159
  obtain ⟨n160, rfl, w161⟩ := shaped_int Tryz.underlying3 s106
  obtain ⟨n162, rfl, w163⟩ := shaped_int Tryz.underlying22 s110
  obtain ⟨n164, rfl, w165⟩ := shaped_int Tryz.underlying3 s114
  obtain ⟨n166, rfl, w167⟩ := shaped_int Tryz.underlying3 s118
  obtain ⟨m168, p169, rfl, l170⟩ := shaped_struct Tryz.underlying24 s122
  obtain ⟨p171, p172, rfl, s173, l174⟩ := shapedL_cons (t := 22) (ts := [22]) l170
  obtain ⟨p175, p176, rfl, s177, l178⟩ := shapedL_cons (t := 22) (ts := []) l174
  obtain rfl := shapedL_nil l178
  obtain ⟨n179, rfl, w180⟩ := shaped_int Tryz.underlying22 s173
  obtain ⟨n181, rfl, w182⟩ := shaped_int Tryz.underlying22 s177
  obtain ⟨n183, rfl, w184, f185⟩ := shaped_slice Tryz.underlying25 s126
  obtain ⟨n186, rfl, w187, f188⟩ := shaped_slice Tryz.underlying26 s130
  obtain ⟨n189, rfl, w190, f191⟩ := shaped_slice Tryz.underlying27 s134
  obtain ⟨n192, rfl, w193, f194⟩ := shaped_slice Tryz.underlying28 s138
  obtain ⟨n195, rfl, w196, f197⟩ := shaped_slice Tryz.underlying29 s142
  obtain ⟨n198, rfl, w199, f200⟩ := shaped_slice Tryz.underlying30 s146
  obtain ⟨m201, p202, rfl, l203⟩ := shaped_struct Tryz.underlying24 s150
  obtain ⟨p204, p205, rfl, s206, l207⟩ := shapedL_cons (t := 22) (ts := [22]) l203
  obtain ⟨p208, p209, rfl, s210, l211⟩ := shapedL_cons (t := 22) (ts := []) l207
  obtain rfl := shapedL_nil l211
  obtain ⟨n212, rfl, w213⟩ := shaped_int Tryz.underlying22 s206
  obtain ⟨n214, rfl, w215⟩ := shaped_int Tryz.underlying22 s210
  obtain ⟨n216, rfl, w217⟩ := shaped_int Tryz.underlying32 s154
  obtain ⟨n218, rfl, w219⟩ := shaped_int Tryz.underlying3 s158
  have k1 := h1
  have lt1 : ∀ x ∈ p1, x.block < W.heap.size := by obtain ⟨m, hm⟩ := k1; exact DataW.trod_lt m _ _ _ hm
  obtain ⟨t1, as1, sh1, re1⟩ := arg_agg envOk comp (by kernel_rfl) (by kernel_rfl) (hval 1 38 v1 rfl rfl) h1
  obtain ⟨m1101, p1102, rfl, l1103⟩ := shaped_struct Tryz.underlying38 sh1
  obtain ⟨p1104, p1105, rfl, s1106, l1107⟩ := shapedL_cons (t := 36) (ts := [36, 22]) l1103
  obtain ⟨p1108, p1109, rfl, s1110, l1111⟩ := shapedL_cons (t := 36) (ts := [22]) l1107
  obtain ⟨p1112, p1113, rfl, s1114, l1115⟩ := shapedL_cons (t := 22) (ts := []) l1111
  obtain rfl := shapedL_nil l1115
  obtain ⟨m1116, p1117, rfl, l1118⟩ := shaped_struct Tryz.underlying36 s1106
  obtain ⟨p1119, p1120, rfl, s1121, l1122⟩ := shapedL_cons (t := 22) (ts := [22, 22]) l1118
  obtain ⟨p1123, p1124, rfl, s1125, l1126⟩ := shapedL_cons (t := 22) (ts := [22]) l1122
  obtain ⟨p1127, p1128, rfl, s1129, l1130⟩ := shapedL_cons (t := 22) (ts := []) l1126
  obtain rfl := shapedL_nil l1130
  obtain ⟨n1131, rfl, w1132⟩ := shaped_int Tryz.underlying22 s1121
  obtain ⟨n1133, rfl, w1134⟩ := shaped_int Tryz.underlying22 s1125
  obtain ⟨n1135, rfl, w1136⟩ := shaped_int Tryz.underlying22 s1129
  obtain ⟨m1137, p1138, rfl, l1139⟩ := shaped_struct Tryz.underlying36 s1110
  obtain ⟨p1140, p1141, rfl, s1142, l1143⟩ := shapedL_cons (t := 22) (ts := [22, 22]) l1139
  obtain ⟨p1144, p1145, rfl, s1146, l1147⟩ := shapedL_cons (t := 22) (ts := [22]) l1143
  obtain ⟨p1148, p1149, rfl, s1150, l1151⟩ := shapedL_cons (t := 22) (ts := []) l1147
  obtain rfl := shapedL_nil l1151
  obtain ⟨n1152, rfl, w1153⟩ := shaped_int Tryz.underlying22 s1142
  obtain ⟨n1154, rfl, w1155⟩ := shaped_int Tryz.underlying22 s1146
  obtain ⟨n1156, rfl, w1157⟩ := shaped_int Tryz.underlying22 s1150
  obtain ⟨n1158, rfl, w1159⟩ := shaped_int Tryz.underlying22 s1114
  clear hA0 hval0 hsz0
  refine (law_ok (vals := [v0, v1]) (v := ((n160, (n162, (n164, (n166, (n179, (n181, (n183, (n186, (n189, (n192, (n195, (n198, (n212, (n214, (n216, n218))))))))))))))), (n1131, (n1133, (n1135, (n1152, (n1154, (n1156, n1158)))))))) Tryz.func3 (by kernel_rfl) rfl ok3_0 (fun _ => rfl) rfl (law3_0 _ ⟨⟨w161, w163, w165, w167, w180, w182, ⟨w184, fun x hx => fact22 x (f185 x hx)⟩, ⟨w187, fun x hx => fact3 x (f188 x hx)⟩, ⟨w190, fun x hx => fact64 x (f191 x hx)⟩, ⟨w193, fun x hx => fact24 x (f194 x hx)⟩, ⟨w196, fun x hx => fact28 x (f197 x hx)⟩, ⟨w199, fun x hx => fact187 x (f200 x hx)⟩, w213, w215, w217, w219⟩, ⟨w1132, w1134, w1136, w1153, w1155, w1157, w1159⟩⟩) (fun c hc => Reps.cons (re0 c hc) (Reps.cons (re1 c hc) (Reps.nil _)))).mono fun e W' ⟨he, bel⟩ => ?_
  subst he
  exact ⟨_, rfl, _, _, _, [], _, [], hW', trodAll_mk1 (shut_bool Tryz.underlying4 _), (trodAll_cons_mk (Below.trod laidOut (by kernel_rfl) (of_decide_eq_true (by kernel_rfl)) k0 bel lt0) (trodAll_cons_mk (Below.trod laidOut (by kernel_rfl) (of_decide_eq_true (by kernel_rfl)) k1 bel lt1) trodAll_mk0)), rfl, bel.frame _, fun h => by cases h⟩
theorem over : Rows.rayCastRow.holds Tryz.pinned (OpenSpec.ofChange Rows.rayCastSpec) :=
  OpenClaim.holds_of_wide 3 Tryz.f3 rfl rfl rfl rfl rfl rfl rfl ⟨rfl, rfl, rfl, rfl, rfl⟩ rfl rfl rfl rfl rfl (by kernel_rfl) Tryz.func3 (by kernel_rfl)
    (of_decide_eq_true (by kernel_rfl)) (by unfold Func.isWrapper; first | (rw [if_pos (by decide +kernel)]; kernel_rfl) | (rw [if_neg (by decide +kernel)]; exact ⟨rfl, rfl⟩))
    (fun os started H enc _ => lifted os started H enc)
end Go.Proofs.YtneiaaalbpjgiaaGreat.rayCast
namespace Go.Proofs.YtneiaaalbpjgiaaGreat
/-- RayCast: for every input the statement is true; the input reads behind as it did. -/
theorem rayCast_holds : Rows.RayCastSaid := rayCast.over
#print axioms rayCast_holds
end Go.Proofs.YtneiaaalbpjgiaaGreat
