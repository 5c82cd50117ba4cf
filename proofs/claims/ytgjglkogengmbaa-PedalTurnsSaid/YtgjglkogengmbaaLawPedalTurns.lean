/- PedalTurns: for every input the statement is true. -/
import Derived.Test.YtgjglkogengmbaaRows
import Derived.Test.YtgjglkogengmbaaEvW
import Derived.Test.YtgjglkogengmbaaMPedal
import Derived.WalkKit
import Derived.ProofKit
import Derived.OpenShut
import Derived.ShutString
import Derived.ChangeOld
import Derived.Below
import Derived.SizedLaws
set_option linter.unusedVariables false
set_option linter.unusedSimpArgs false
namespace Go.Proofs.Ytgjglkogengmbaa.Ev
open Go Go.RowKit
theorem encDec22 (x : Int) : E.dec 22 (E.enc 22 x) = some x := rfl
theorem encDec30 (x : List Int) : E.dec 30 (E.enc 30 x) = some x := rfl
theorem encDec139 (x : Int × Int) : E.dec 139 (E.enc 139 x) = some x := rfl
theorem fact22 (x : Int) (hh : ∃ m, Shaped Try.prog E m 22 (E.enc 22 x)) : (Lit.int .i64 x).wf = true := by
  obtain ⟨m, h⟩ := hh
  generalize hx : E.enc 22 x = cs0 at h
  obtain ⟨n1, rfl, w2⟩ := shaped_int Try.underlying22 h
  have hi : x = n1 := Option.some.inj ((encDec22 x).symm.trans ((congrArg (E.dec 22) hx).trans (by rfl)))
  rw [hi]
  exact w2
theorem fact30 (x : List Int) (hh : ∃ m, Shaped Try.prog E m 30 (E.enc 30 x)) : (((x).length ≤ maxLen ∧ ∀ y ∈ x, (Lit.int .i64 y).wf = true)) := by
  obtain ⟨m, h⟩ := hh
  generalize hx : E.enc 30 x = cs0 at h
  obtain ⟨n1, rfl, w2, f3⟩ := shaped_slice Try.underlying30 h
  have hi : x = n1 := Option.some.inj ((encDec30 x).symm.trans ((congrArg (E.dec 30) hx).trans (by rfl)))
  rw [hi]
  exact ⟨w2, fun x hx => fact22 x (f3 x hx)⟩
theorem fact139 (x : Int × Int) (hh : ∃ m, Shaped Try.prog E m 139 (E.enc 139 x)) : (Lit.int .i64 x.1).wf = true ∧ (Lit.int .i64 x.2).wf = true := by
  obtain ⟨m, h⟩ := hh
  generalize hx : E.enc 139 x = cs0 at h
  obtain ⟨m1, p2, rfl, l3⟩ := shaped_struct Try.underlying139 h
  obtain ⟨p4, p5, rfl, s6, l7⟩ := shapedL_cons (t := 22) (ts := [22]) l3
  obtain ⟨p8, p9, rfl, s10, l11⟩ := shapedL_cons (t := 22) (ts := []) l7
  obtain rfl := shapedL_nil l11
  obtain ⟨n12, rfl, w13⟩ := shaped_int Try.underlying22 s6
  obtain ⟨n14, rfl, w15⟩ := shaped_int Try.underlying22 s10
  have hi : x = (n12, n14) := Option.some.inj ((encDec139 x).symm.trans ((congrArg (E.dec 139) hx).trans (by rfl)))
  rw [hi]
  exact ⟨w13, w15⟩
theorem comp : ∀ n e cs0, e ∈ [22, 30, 139] → Shaped Try.prog E n e cs0 → ∃ x, E.enc e x = cs0 := by
  intro n e cs0 he h
  simp only [List.mem_cons, List.not_mem_nil, or_false] at he
  rcases he with rfl | rfl | rfl
  · obtain ⟨n1, rfl, w2⟩ := shaped_int Try.underlying22 h
    exact ⟨(n1 : Int), rfl⟩
  · obtain ⟨n1, rfl, w2, f3⟩ := shaped_slice Try.underlying30 h
    exact ⟨(n1 : List Int), rfl⟩
  · obtain ⟨m1, p2, rfl, l3⟩ := shaped_struct Try.underlying139 h
    obtain ⟨p4, p5, rfl, s6, l7⟩ := shapedL_cons (t := 22) (ts := [22]) l3
    obtain ⟨p8, p9, rfl, s10, l11⟩ := shapedL_cons (t := 22) (ts := []) l7
    obtain rfl := shapedL_nil l11
    obtain ⟨n12, rfl, w13⟩ := shaped_int Try.underlying22 s6
    obtain ⟨n14, rfl, w15⟩ := shaped_int Try.underlying22 s10
    exact ⟨((n12, n14) : Int × Int), rfl⟩
end Go.Proofs.Ytgjglkogengmbaa.Ev
namespace Go.Proofs.Ytgjglkogengmbaa.pedalTurns
open Go Ev
open Go.ChangeShapes Go.WideShapes Go.ChangeAt Go.RowKit
theorem own : ownKnob Try.prog.godebug = none := by kernel_rfl
theorem laidOut : laidOutB Try.prog = true := by kernel_rfl
set_option maxRecDepth 100000 in
theorem lifted (os : Os) (started : os.Started) (H : Type) (enc : TypeId × Value → H) :
    ReturnsInHanded {} Try.checked os 4 .any (Rows.pedalTurnsSpec.pre6 enc Try.prog Try.f4 Rows.pedalTurnsRow.domain false) (Rows.pedalTurnsSpec.post enc Try.prog Try.f4 false true false false) := by
  refine returnsInHanded_of_change_sized (C := Try.checked) own started (by kernel_rfl) Try.func4
    (ChangeSpec.witness6 (enc := enc) (C := Try.checked) false ⟨#[], #[.agg #[.int .i64 0, .int .i64 0, .int .i64 0, .int .i64 0, .int .i64 0, .int .i64 0, .int .i64 0, .int .i64 0, .int .i64 0, .int .i64 0, .int .i64 0, .int .i64 0, .bool false, .bool false, .int .i64 0, .int .i64 0, .int .i64 0, .int .i64 0, .int .i64 0, .int .i64 0, .int .i64 0, .int .i64 0, .bool false, .bool false, .int .i64 0, .int .i64 0, .int .i64 0, .int .i64 0, .int .i64 0, .int .i64 0, .int .i64 0, .int .i64 0, .bool false, .bool false, .int .i64 0, .int .i64 0, .int .i64 0, .int .i64 0, .int .i64 0, .int .i64 0, .int .i64 0, .int .i64 0, .bool false, .bool false, .int .i64 0, .int .i64 0, .slice none 0 0, .slice none 0 0, .slice none 0 0, .slice none 0 0, .slice none 0 0, .slice none 0 0, .int .i64 0, .int .i64 0, .int .i64 0, .int .i64 0, .int .i64 0, .int .i64 0, .int .i64 0, .int .i64 0, .slice none 0 0, .int .i64 0, .int .i64 0, .int .i64 0, .int .i64 0, .int .i64 0, .int .i64 0, .int .u32 0, .int .u32 0, .int .i64 0, .int .i64 0, .int .i64 0, .int .i64 0, .int .i64 0, .int .i64 0, .int .i64 0], .int .u32 0, .agg #[.int .i64 0, .int .i64 0]], []⟩ 8 (by kernel_rfl) (by kernel_rfl) (by kernel_rfl) (by kernel_rfl)) ?_
  intro W base args ds gs before hval0 hW hcnd hsz0 _
  have hval : ∀ (j : Nat) t v, Try.f4.params[j]? = some t → args[j]? = some v → Value.okWide Try.prog W .any base t v := hval0
  have hW' := hW
  obtain ⟨p, q, hA0, hV, rfl, hfz, hnd⟩ := hW
  have hA : DataW.TrodAll enc Try.prog W 0 (fun _ => true) true Try.f4.params.toList args.toList ds p := hA0
  rw [Try.params4] at hA hval
  obtain ⟨v0, vs0, d0, ds0, p0, q0, hargs, rfl, rfl, h0, r0⟩ := trodAll_cons hA
  obtain ⟨v1, vs1, d1, ds1, p1, q1, rfl, rfl, rfl, h1, r1⟩ := trodAll_cons r0
  obtain ⟨v2, vs2, d2, ds2, p2, q2, rfl, rfl, rfl, h2, r2⟩ := trodAll_cons r1
  obtain ⟨rfl, rfl, rfl⟩ := trodAll_nil r2
  obtain rfl : args = #[v0, v1, v2] := by cases args; simp_all
  obtain ⟨rfl, rfl⟩ := trodVars_none hV
  have k0 := h0
  have lt0 : ∀ x ∈ p0, x.block < W.heap.size := by obtain ⟨m, hm⟩ := k0; exact DataW.trod_lt m _ _ _ hm
  obtain ⟨t0, as0, sh0, re0⟩ := arg_agg envOk comp (by kernel_rfl) (by kernel_rfl) (hval 0 37 v0 rfl rfl) h0
  obtain ⟨m101, p102, rfl, l103⟩ := shaped_struct Try.underlying37 sh0
  obtain ⟨p104, p105, rfl, s106, l107⟩ := shapedL_cons (t := 22) (ts := [24, 27, 28, 29, 33, 29, 29, 22, 22, 22, 22, 22, 22, 22, 22, 30, 22, 3, 22, 22, 22, 22, 35, 35, 22, 22, 22, 22, 22, 22, 22]) l103
  obtain ⟨p108, p109, rfl, s110, l111⟩ := shapedL_cons (t := 24) (ts := [27, 28, 29, 33, 29, 29, 22, 22, 22, 22, 22, 22, 22, 22, 30, 22, 3, 22, 22, 22, 22, 35, 35, 22, 22, 22, 22, 22, 22, 22]) l107
  obtain ⟨p112, p113, rfl, s114, l115⟩ := shapedL_cons (t := 27) (ts := [28, 29, 33, 29, 29, 22, 22, 22, 22, 22, 22, 22, 22, 30, 22, 3, 22, 22, 22, 22, 35, 35, 22, 22, 22, 22, 22, 22, 22]) l111
  obtain ⟨p116, p117, rfl, s118, l119⟩ := shapedL_cons (t := 28) (ts := [29, 33, 29, 29, 22, 22, 22, 22, 22, 22, 22, 22, 30, 22, 3, 22, 22, 22, 22, 35, 35, 22, 22, 22, 22, 22, 22, 22]) l115
  obtain ⟨p120, p121, rfl, s122, l123⟩ := shapedL_cons (t := 29) (ts := [33, 29, 29, 22, 22, 22, 22, 22, 22, 22, 22, 30, 22, 3, 22, 22, 22, 22, 35, 35, 22, 22, 22, 22, 22, 22, 22]) l119
  obtain ⟨p124, p125, rfl, s126, l127⟩ := shapedL_cons (t := 33) (ts := [29, 29, 22, 22, 22, 22, 22, 22, 22, 22, 30, 22, 3, 22, 22, 22, 22, 35, 35, 22, 22, 22, 22, 22, 22, 22]) l123
  obtain ⟨p128, p129, rfl, s130, l131⟩ := shapedL_cons (t := 29) (ts := [29, 22, 22, 22, 22, 22, 22, 22, 22, 30, 22, 3, 22, 22, 22, 22, 35, 35, 22, 22, 22, 22, 22, 22, 22]) l127
  obtain ⟨p132, p133, rfl, s134, l135⟩ := shapedL_cons (t := 29) (ts := [22, 22, 22, 22, 22, 22, 22, 22, 30, 22, 3, 22, 22, 22, 22, 35, 35, 22, 22, 22, 22, 22, 22, 22]) l131
  obtain ⟨p136, p137, rfl, s138, l139⟩ := shapedL_cons (t := 22) (ts := [22, 22, 22, 22, 22, 22, 22, 30, 22, 3, 22, 22, 22, 22, 35, 35, 22, 22, 22, 22, 22, 22, 22]) l135
  obtain ⟨p140, p141, rfl, s142, l143⟩ := shapedL_cons (t := 22) (ts := [22, 22, 22, 22, 22, 22, 30, 22, 3, 22, 22, 22, 22, 35, 35, 22, 22, 22, 22, 22, 22, 22]) l139
  obtain ⟨p144, p145, rfl, s146, l147⟩ := shapedL_cons (t := 22) (ts := [22, 22, 22, 22, 22, 30, 22, 3, 22, 22, 22, 22, 35, 35, 22, 22, 22, 22, 22, 22, 22]) l143
  obtain ⟨p148, p149, rfl, s150, l151⟩ := shapedL_cons (t := 22) (ts := [22, 22, 22, 22, 30, 22, 3, 22, 22, 22, 22, 35, 35, 22, 22, 22, 22, 22, 22, 22]) l147
  obtain ⟨p152, p153, rfl, s154, l155⟩ := shapedL_cons (t := 22) (ts := [22, 22, 22, 30, 22, 3, 22, 22, 22, 22, 35, 35, 22, 22, 22, 22, 22, 22, 22]) l151
  obtain ⟨p156, p157, rfl, s158, l159⟩ := shapedL_cons (t := 22) (ts := [22, 22, 30, 22, 3, 22, 22, 22, 22, 35, 35, 22, 22, 22, 22, 22, 22, 22]) l155
  obtain ⟨p160, p161, rfl, s162, l163⟩ := shapedL_cons (t := 22) (ts := [22, 30, 22, 3, 22, 22, 22, 22, 35, 35, 22, 22, 22, 22, 22, 22, 22]) l159
  obtain ⟨p164, p165, rfl, s166, l167⟩ := shapedL_cons (t := 22) (ts := [30, 22, 3, 22, 22, 22, 22, 35, 35, 22, 22, 22, 22, 22, 22, 22]) l163
  obtain ⟨p168, p169, rfl, s170, l171⟩ := shapedL_cons (t := 30) (ts := [22, 3, 22, 22, 22, 22, 35, 35, 22, 22, 22, 22, 22, 22, 22]) l167
  obtain ⟨p172, p173, rfl, s174, l175⟩ := shapedL_cons (t := 22) (ts := [3, 22, 22, 22, 22, 35, 35, 22, 22, 22, 22, 22, 22, 22]) l171
  obtain ⟨p176, p177, rfl, s178, l179⟩ := shapedL_cons (t := 3) (ts := [22, 22, 22, 22, 35, 35, 22, 22, 22, 22, 22, 22, 22]) l175
  obtain ⟨p180, p181, rfl, s182, l183⟩ := shapedL_cons (t := 22) (ts := [22, 22, 22, 35, 35, 22, 22, 22, 22, 22, 22, 22]) l179
  obtain ⟨p184, p185, rfl, s186, l187⟩ := shapedL_cons (t := 22) (ts := [22, 22, 35, 35, 22, 22, 22, 22, 22, 22, 22]) l183
  obtain ⟨p188, p189, rfl, s190, l191⟩ := shapedL_cons (t := 22) (ts := [22, 35, 35, 22, 22, 22, 22, 22, 22, 22]) l187
  obtain ⟨p192, p193, rfl, s194, l195⟩ := shapedL_cons (t := 22) (ts := [35, 35, 22, 22, 22, 22, 22, 22, 22]) l191
  obtain ⟨p196, p197, rfl, s198, l199⟩ := shapedL_cons (t := 35) (ts := [35, 22, 22, 22, 22, 22, 22, 22]) l195
  obtain ⟨p200, p201, rfl, s202, l203⟩ := shapedL_cons (t := 35) (ts := [22, 22, 22, 22, 22, 22, 22]) l199
  obtain ⟨p204, p205, rfl, s206, l207⟩ := shapedL_cons (t := 22) (ts := [22, 22, 22, 22, 22, 22]) l203
  obtain ⟨p208, p209, rfl, s210, l211⟩ := shapedL_cons (t := 22) (ts := [22, 22, 22, 22, 22]) l207
  obtain ⟨p212, p213, rfl, s214, l215⟩ := shapedL_cons (t := 22) (ts := [22, 22, 22, 22]) l211
  obtain ⟨p216, p217, rfl, s218, l219⟩ := shapedL_cons (t := 22) (ts := [22, 22, 22]) l215
  obtain ⟨p220, p221, rfl, s222, l223⟩ := shapedL_cons (t := 22) (ts := [22, 22]) l219
  obtain ⟨p224, p225, rfl, s226, l227⟩ := shapedL_cons (t := 22) (ts := [22]) l223
  obtain ⟨p228, p229, rfl, s230, l231⟩ := shapedL_cons (t := 22) (ts := []) l227
  obtain rfl := shapedL_nil l231
  obtain ⟨n232, rfl, w233⟩ := shaped_int Try.underlying22 s106
  obtain ⟨m234, p235, rfl, l236⟩ := shaped_struct Try.underlying24 s110
  obtain ⟨p237, p238, rfl, s239, l240⟩ := shapedL_cons (t := 22) (ts := [22, 22]) l236
  obtain ⟨p241, p242, rfl, s243, l244⟩ := shapedL_cons (t := 22) (ts := [22]) l240
  obtain ⟨p245, p246, rfl, s247, l248⟩ := shapedL_cons (t := 22) (ts := []) l244
  obtain rfl := shapedL_nil l248
  obtain ⟨n249, rfl, w250⟩ := shaped_int Try.underlying22 s239
  obtain ⟨n251, rfl, w252⟩ := shaped_int Try.underlying22 s243
  obtain ⟨n253, rfl, w254⟩ := shaped_int Try.underlying22 s247
  obtain ⟨m255, p256, rfl, l257⟩ := shaped_array Try.underlying27 s114
  obtain ⟨p258, p259, rfl, s260, l261⟩ := shapedL_cons (t := 26) (ts := [26, 26, 26]) l257
  obtain ⟨p262, p263, rfl, s264, l265⟩ := shapedL_cons (t := 26) (ts := [26, 26]) l261
  obtain ⟨p266, p267, rfl, s268, l269⟩ := shapedL_cons (t := 26) (ts := [26]) l265
  obtain ⟨p270, p271, rfl, s272, l273⟩ := shapedL_cons (t := 26) (ts := []) l269
  obtain rfl := shapedL_nil l273
  obtain ⟨m274, p275, rfl, l276⟩ := shaped_struct Try.underlying26 s260
  obtain ⟨p277, p278, rfl, s279, l280⟩ := shapedL_cons (t := 24) (ts := [22, 22, 22, 22, 22, 4, 4]) l276
  obtain ⟨p281, p282, rfl, s283, l284⟩ := shapedL_cons (t := 22) (ts := [22, 22, 22, 22, 4, 4]) l280
  obtain ⟨p285, p286, rfl, s287, l288⟩ := shapedL_cons (t := 22) (ts := [22, 22, 22, 4, 4]) l284
  obtain ⟨p289, p290, rfl, s291, l292⟩ := shapedL_cons (t := 22) (ts := [22, 22, 4, 4]) l288
  obtain ⟨p293, p294, rfl, s295, l296⟩ := shapedL_cons (t := 22) (ts := [22, 4, 4]) l292
  obtain ⟨p297, p298, rfl, s299, l300⟩ := shapedL_cons (t := 22) (ts := [4, 4]) l296
  obtain ⟨p301, p302, rfl, s303, l304⟩ := shapedL_cons (t := 4) (ts := [4]) l300
  obtain ⟨p305, p306, rfl, s307, l308⟩ := shapedL_cons (t := 4) (ts := []) l304
  obtain rfl := shapedL_nil l308
  obtain ⟨m309, p310, rfl, l311⟩ := shaped_struct Try.underlying24 s279
  obtain ⟨p312, p313, rfl, s314, l315⟩ := shapedL_cons (t := 22) (ts := [22, 22]) l311
  obtain ⟨p316, p317, rfl, s318, l319⟩ := shapedL_cons (t := 22) (ts := [22]) l315
  obtain ⟨p320, p321, rfl, s322, l323⟩ := shapedL_cons (t := 22) (ts := []) l319
  obtain rfl := shapedL_nil l323
  obtain ⟨n324, rfl, w325⟩ := shaped_int Try.underlying22 s314
  obtain ⟨n326, rfl, w327⟩ := shaped_int Try.underlying22 s318
  obtain ⟨n328, rfl, w329⟩ := shaped_int Try.underlying22 s322
  obtain ⟨n330, rfl, w331⟩ := shaped_int Try.underlying22 s283
  obtain ⟨n332, rfl, w333⟩ := shaped_int Try.underlying22 s287
  obtain ⟨n334, rfl, w335⟩ := shaped_int Try.underlying22 s291
  obtain ⟨n336, rfl, w337⟩ := shaped_int Try.underlying22 s295
  obtain ⟨n338, rfl, w339⟩ := shaped_int Try.underlying22 s299
  obtain ⟨n340, rfl⟩ := shaped_bool Try.underlying4 s303
  obtain ⟨n341, rfl⟩ := shaped_bool Try.underlying4 s307
  obtain ⟨m342, p343, rfl, l344⟩ := shaped_struct Try.underlying26 s264
  obtain ⟨p345, p346, rfl, s347, l348⟩ := shapedL_cons (t := 24) (ts := [22, 22, 22, 22, 22, 4, 4]) l344
  obtain ⟨p349, p350, rfl, s351, l352⟩ := shapedL_cons (t := 22) (ts := [22, 22, 22, 22, 4, 4]) l348
  obtain ⟨p353, p354, rfl, s355, l356⟩ := shapedL_cons (t := 22) (ts := [22, 22, 22, 4, 4]) l352
  obtain ⟨p357, p358, rfl, s359, l360⟩ := shapedL_cons (t := 22) (ts := [22, 22, 4, 4]) l356
  obtain ⟨p361, p362, rfl, s363, l364⟩ := shapedL_cons (t := 22) (ts := [22, 4, 4]) l360
  obtain ⟨p365, p366, rfl, s367, l368⟩ := shapedL_cons (t := 22) (ts := [4, 4]) l364
  obtain ⟨p369, p370, rfl, s371, l372⟩ := shapedL_cons (t := 4) (ts := [4]) l368
  obtain ⟨p373, p374, rfl, s375, l376⟩ := shapedL_cons (t := 4) (ts := []) l372
  obtain rfl := shapedL_nil l376
  obtain ⟨m377, p378, rfl, l379⟩ := shaped_struct Try.underlying24 s347
  obtain ⟨p380, p381, rfl, s382, l383⟩ := shapedL_cons (t := 22) (ts := [22, 22]) l379
  obtain ⟨p384, p385, rfl, s386, l387⟩ := shapedL_cons (t := 22) (ts := [22]) l383
  obtain ⟨p388, p389, rfl, s390, l391⟩ := shapedL_cons (t := 22) (ts := []) l387
  obtain rfl := shapedL_nil l391
  obtain ⟨n392, rfl, w393⟩ := shaped_int Try.underlying22 s382
  obtain ⟨n394, rfl, w395⟩ := shaped_int Try.underlying22 s386
  obtain ⟨n396, rfl, w397⟩ := shaped_int Try.underlying22 s390
  obtain ⟨n398, rfl, w399⟩ := shaped_int Try.underlying22 s351
  obtain ⟨n400, rfl, w401⟩ := shaped_int Try.underlying22 s355
  obtain ⟨n402, rfl, w403⟩ := shaped_int Try.underlying22 s359
  obtain ⟨n404, rfl, w405⟩ := shaped_int Try.underlying22 s363
  obtain ⟨n406, rfl, w407⟩ := shaped_int Try.underlying22 s367
  obtain ⟨n408, rfl⟩ := shaped_bool Try.underlying4 s371
  obtain ⟨n409, rfl⟩ := shaped_bool Try.underlying4 s375
  obtain ⟨m410, p411, rfl, l412⟩ := shaped_struct Try.underlying26 s268
  obtain ⟨p413, p414, rfl, s415, l416⟩ := shapedL_cons (t := 24) (ts := [22, 22, 22, 22, 22, 4, 4]) l412
  obtain ⟨p417, p418, rfl, s419, l420⟩ := shapedL_cons (t := 22) (ts := [22, 22, 22, 22, 4, 4]) l416
  obtain ⟨p421, p422, rfl, s423, l424⟩ := shapedL_cons (t := 22) (ts := [22, 22, 22, 4, 4]) l420
  obtain ⟨p425, p426, rfl, s427, l428⟩ := shapedL_cons (t := 22) (ts := [22, 22, 4, 4]) l424
  obtain ⟨p429, p430, rfl, s431, l432⟩ := shapedL_cons (t := 22) (ts := [22, 4, 4]) l428
  obtain ⟨p433, p434, rfl, s435, l436⟩ := shapedL_cons (t := 22) (ts := [4, 4]) l432
  obtain ⟨p437, p438, rfl, s439, l440⟩ := shapedL_cons (t := 4) (ts := [4]) l436
  obtain ⟨p441, p442, rfl, s443, l444⟩ := shapedL_cons (t := 4) (ts := []) l440
  obtain rfl := shapedL_nil l444
  obtain ⟨m445, p446, rfl, l447⟩ := shaped_struct Try.underlying24 s415
  obtain ⟨p448, p449, rfl, s450, l451⟩ := shapedL_cons (t := 22) (ts := [22, 22]) l447
  obtain ⟨p452, p453, rfl, s454, l455⟩ := shapedL_cons (t := 22) (ts := [22]) l451
  obtain ⟨p456, p457, rfl, s458, l459⟩ := shapedL_cons (t := 22) (ts := []) l455
  obtain rfl := shapedL_nil l459
  obtain ⟨n460, rfl, w461⟩ := shaped_int Try.underlying22 s450
  obtain ⟨n462, rfl, w463⟩ := shaped_int Try.underlying22 s454
  obtain ⟨n464, rfl, w465⟩ := shaped_int Try.underlying22 s458
  obtain ⟨n466, rfl, w467⟩ := shaped_int Try.underlying22 s419
  obtain ⟨n468, rfl, w469⟩ := shaped_int Try.underlying22 s423
  obtain ⟨n470, rfl, w471⟩ := shaped_int Try.underlying22 s427
  obtain ⟨n472, rfl, w473⟩ := shaped_int Try.underlying22 s431
  obtain ⟨n474, rfl, w475⟩ := shaped_int Try.underlying22 s435
  obtain ⟨n476, rfl⟩ := shaped_bool Try.underlying4 s439
  obtain ⟨n477, rfl⟩ := shaped_bool Try.underlying4 s443
  obtain ⟨m478, p479, rfl, l480⟩ := shaped_struct Try.underlying26 s272
  obtain ⟨p481, p482, rfl, s483, l484⟩ := shapedL_cons (t := 24) (ts := [22, 22, 22, 22, 22, 4, 4]) l480
  obtain ⟨p485, p486, rfl, s487, l488⟩ := shapedL_cons (t := 22) (ts := [22, 22, 22, 22, 4, 4]) l484
  obtain ⟨p489, p490, rfl, s491, l492⟩ := shapedL_cons (t := 22) (ts := [22, 22, 22, 4, 4]) l488
  obtain ⟨p493, p494, rfl, s495, l496⟩ := shapedL_cons (t := 22) (ts := [22, 22, 4, 4]) l492
  obtain ⟨p497, p498, rfl, s499, l500⟩ := shapedL_cons (t := 22) (ts := [22, 4, 4]) l496
  obtain ⟨p501, p502, rfl, s503, l504⟩ := shapedL_cons (t := 22) (ts := [4, 4]) l500
  obtain ⟨p505, p506, rfl, s507, l508⟩ := shapedL_cons (t := 4) (ts := [4]) l504
  obtain ⟨p509, p510, rfl, s511, l512⟩ := shapedL_cons (t := 4) (ts := []) l508
  obtain rfl := shapedL_nil l512
  obtain ⟨m513, p514, rfl, l515⟩ := shaped_struct Try.underlying24 s483
  obtain ⟨p516, p517, rfl, s518, l519⟩ := shapedL_cons (t := 22) (ts := [22, 22]) l515
  obtain ⟨p520, p521, rfl, s522, l523⟩ := shapedL_cons (t := 22) (ts := [22]) l519
  obtain ⟨p524, p525, rfl, s526, l527⟩ := shapedL_cons (t := 22) (ts := []) l523
  obtain rfl := shapedL_nil l527
  obtain ⟨n528, rfl, w529⟩ := shaped_int Try.underlying22 s518
  obtain ⟨n530, rfl, w531⟩ := shaped_int Try.underlying22 s522
  obtain ⟨n532, rfl, w533⟩ := shaped_int Try.underlying22 s526
  obtain ⟨n534, rfl, w535⟩ := shaped_int Try.underlying22 s487
  obtain ⟨n536, rfl, w537⟩ := shaped_int Try.underlying22 s491
  obtain ⟨n538, rfl, w539⟩ := shaped_int Try.underlying22 s495
  obtain ⟨n540, rfl, w541⟩ := shaped_int Try.underlying22 s499
  obtain ⟨n542, rfl, w543⟩ := shaped_int Try.underlying22 s503
  obtain ⟨n544, rfl⟩ := shaped_bool Try.underlying4 s507
  obtain ⟨n545, rfl⟩ := shaped_bool Try.underlying4 s511
  obtain ⟨m546, p547, rfl, l548⟩ := shaped_array Try.underlying28 s118
  obtain ⟨p549, p550, rfl, s551, l552⟩ := shapedL_cons (t := 22) (ts := [22]) l548
  obtain ⟨p553, p554, rfl, s555, l556⟩ := shapedL_cons (t := 22) (ts := []) l552
  obtain rfl := shapedL_nil l556
  obtain ⟨n557, rfl, w558⟩ := shaped_int Try.underlying22 s551
  obtain ⟨n559, rfl, w560⟩ := shaped_int Try.underlying22 s555
  obtain ⟨n561, rfl, w562, f563⟩ := shaped_slice Try.underlying29 s122
  obtain ⟨m564, p565, rfl, l566⟩ := shaped_struct Try.underlying33 s126
  obtain ⟨p567, p568, rfl, s569, l570⟩ := shapedL_cons (t := 30) (ts := [30, 31]) l566
  obtain ⟨p571, p572, rfl, s573, l574⟩ := shapedL_cons (t := 30) (ts := [31]) l570
  obtain ⟨p575, p576, rfl, s577, l578⟩ := shapedL_cons (t := 31) (ts := []) l574
  obtain rfl := shapedL_nil l578
  obtain ⟨n579, rfl, w580, f581⟩ := shaped_slice Try.underlying30 s569
  obtain ⟨n582, rfl, w583, f584⟩ := shaped_slice Try.underlying30 s573
  obtain ⟨n585, rfl, w586, f587⟩ := shaped_slice Try.underlying31 s577
  obtain ⟨n588, rfl, w589, f590⟩ := shaped_slice Try.underlying29 s130
  obtain ⟨n591, rfl, w592, f593⟩ := shaped_slice Try.underlying29 s134
  obtain ⟨n594, rfl, w595⟩ := shaped_int Try.underlying22 s138
  obtain ⟨n596, rfl, w597⟩ := shaped_int Try.underlying22 s142
  obtain ⟨n598, rfl, w599⟩ := shaped_int Try.underlying22 s146
  obtain ⟨n600, rfl, w601⟩ := shaped_int Try.underlying22 s150
  obtain ⟨n602, rfl, w603⟩ := shaped_int Try.underlying22 s154
  obtain ⟨n604, rfl, w605⟩ := shaped_int Try.underlying22 s158
  obtain ⟨n606, rfl, w607⟩ := shaped_int Try.underlying22 s162
  obtain ⟨n608, rfl, w609⟩ := shaped_int Try.underlying22 s166
  obtain ⟨n610, rfl, w611, f612⟩ := shaped_slice Try.underlying30 s170
  obtain ⟨n613, rfl, w614⟩ := shaped_int Try.underlying22 s174
  obtain ⟨n615, rfl, w616⟩ := shaped_int Try.underlying3 s178
  obtain ⟨n617, rfl, w618⟩ := shaped_int Try.underlying22 s182
  obtain ⟨n619, rfl, w620⟩ := shaped_int Try.underlying22 s186
  obtain ⟨n621, rfl, w622⟩ := shaped_int Try.underlying22 s190
  obtain ⟨n623, rfl, w624⟩ := shaped_int Try.underlying22 s194
  obtain ⟨n625, rfl, w626⟩ := shaped_int Try.underlying35 s198
  obtain ⟨n627, rfl, w628⟩ := shaped_int Try.underlying35 s202
  obtain ⟨n629, rfl, w630⟩ := shaped_int Try.underlying22 s206
  obtain ⟨n631, rfl, w632⟩ := shaped_int Try.underlying22 s210
  obtain ⟨n633, rfl, w634⟩ := shaped_int Try.underlying22 s214
  obtain ⟨n635, rfl, w636⟩ := shaped_int Try.underlying22 s218
  obtain ⟨n637, rfl, w638⟩ := shaped_int Try.underlying22 s222
  obtain ⟨n639, rfl, w640⟩ := shaped_int Try.underlying22 s226
  obtain ⟨n641, rfl, w642⟩ := shaped_int Try.underlying22 s230
  have k1 := h1
  have lt1 : ∀ x ∈ p1, x.block < W.heap.size := by obtain ⟨m, hm⟩ := k1; exact DataW.trod_lt m _ _ _ hm
  have ce1 : v1.cells = #[v1] := by obtain ⟨a, rfl⟩ := okWide_int Try.underlying35 (hval 1 35 v1 rfl rfl); rfl
  obtain ⟨t1, a1, sh1, re1⟩ := arg_one envOk comp (by kernel_rfl) ce1 h1
  obtain ⟨n201, e1, w202⟩ := shaped_int Try.underlying35 sh1
  obtain rfl := (List.cons.inj e1).1
  have k2 := h2
  have lt2 : ∀ x ∈ p2, x.block < W.heap.size := by obtain ⟨m, hm⟩ := k2; exact DataW.trod_lt m _ _ _ hm
  obtain ⟨t2, as2, sh2, re2⟩ := arg_agg envOk comp (by kernel_rfl) (by kernel_rfl) (hval 2 38 v2 rfl rfl) h2
  obtain ⟨m301, p302, rfl, l303⟩ := shaped_array Try.underlying38 sh2
  obtain ⟨p304, p305, rfl, s306, l307⟩ := shapedL_cons (t := 3) (ts := [3]) l303
  obtain ⟨p308, p309, rfl, s310, l311⟩ := shapedL_cons (t := 3) (ts := []) l307
  obtain rfl := shapedL_nil l311
  obtain ⟨n312, rfl, w313⟩ := shaped_int Try.underlying3 s306
  obtain ⟨n314, rfl, w315⟩ := shaped_int Try.underlying3 s310
  clear hA0 hval0 hsz0
  refine (law_ok (vals := [v0, v1, v2]) (v := ((n232, (n249, (n251, (n253, (n324, (n326, (n328, (n330, (n332, (n334, (n336, (n338, (n340, (n341, (n392, (n394, (n396, (n398, (n400, (n402, (n404, (n406, (n408, (n409, (n460, (n462, (n464, (n466, (n468, (n470, (n472, (n474, (n476, (n477, (n528, (n530, (n532, (n534, (n536, (n538, (n540, (n542, (n544, (n545, (n557, (n559, (n561, (n579, (n582, (n585, (n588, (n591, (n594, (n596, (n598, (n600, (n602, (n604, (n606, (n608, (n610, (n613, (n615, (n617, (n619, (n621, (n623, (n625, (n627, (n629, (n631, (n633, (n635, (n637, (n639, n641))))))))))))))))))))))))))))))))))))))))))))))))))))))))))))))))))))))))))), (n201, (n312, n314)))) Try.func4 (by kernel_rfl) rfl ok4_0 (fun _ => rfl) rfl (law4_0 _ ⟨⟨w233, w250, w252, w254, w325, w327, w329, w331, w333, w335, w337, w339, w393, w395, w397, w399, w401, w403, w405, w407, w461, w463, w465, w467, w469, w471, w473, w475, w529, w531, w533, w535, w537, w539, w541, w543, w558, w560, ⟨w562, fun x hx => fact139 x (f563 x hx)⟩, ⟨w580, fun x hx => fact22 x (f581 x hx)⟩, ⟨w583, fun x hx => fact22 x (f584 x hx)⟩, ⟨w586, fun x hx => fact30 x (f587 x hx)⟩, ⟨w589, fun x hx => fact139 x (f590 x hx)⟩, ⟨w592, fun x hx => fact139 x (f593 x hx)⟩, w595, w597, w599, w601, w603, w605, w607, w609, ⟨w611, fun x hx => fact22 x (f612 x hx)⟩, w614, w616, w618, w620, w622, w624, w626, w628, w630, w632, w634, w636, w638, w640, w642⟩, w202, ⟨w313, w315⟩⟩) (fun c hc => Reps.cons (re0 c hc) (Reps.cons (re1 c hc) (Reps.cons (re2 c hc) (Reps.nil _))))).mono fun e W' ⟨he, bel⟩ => ?_
  subst he
  exact ⟨_, rfl, _, _, _, [], _, [], hW', trodAll_mk1 (shut_bool Try.underlying4 _), (trodAll_cons_mk (Below.trod laidOut (by kernel_rfl) (of_decide_eq_true (by kernel_rfl)) k0 bel lt0) (trodAll_cons_mk (Below.trod laidOut (by kernel_rfl) (of_decide_eq_true (by kernel_rfl)) k1 bel lt1) (trodAll_cons_mk (Below.trod laidOut (by kernel_rfl) (of_decide_eq_true (by kernel_rfl)) k2 bel lt2) trodAll_mk0))), rfl, bel.frame _, fun h => by cases h⟩
theorem over : Rows.pedalTurnsRow.holds Try.pinned (OpenSpec.ofChange Rows.pedalTurnsSpec) :=
  OpenClaim.holds_of_wide 4 Try.f4 rfl rfl rfl rfl rfl rfl rfl ⟨rfl, rfl, rfl, rfl, rfl⟩ rfl rfl rfl rfl rfl (by kernel_rfl) Try.func4 (by kernel_rfl)
    (of_decide_eq_true (by kernel_rfl)) (by unfold Func.isWrapper; first | (rw [if_pos (by decide +kernel)]; kernel_rfl) | (rw [if_neg (by decide +kernel)]; exact ⟨rfl, rfl⟩))
    (fun os started H enc _ => lifted os started H enc)
end Go.Proofs.Ytgjglkogengmbaa.pedalTurns
namespace Go.Proofs.Ytgjglkogengmbaa
/-- PedalTurns: for every input the statement is true; the input reads behind as it did. -/
theorem pedalTurns_holds : Rows.PedalTurnsSaid := pedalTurns.over
#print axioms pedalTurns_holds
end Go.Proofs.Ytgjglkogengmbaa
