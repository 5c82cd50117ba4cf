/- TelemetryOf: for every input the statement is true. -/
import Derived.Test.YtfhhpfhmplgndaaRows
import Derived.Test.YtfhhpfhmplgndaaEvW
import Derived.Test.YtfhhpfhmplgndaaMOf
import Derived.WalkKit
import Derived.ProofKit
import Derived.OpenShut
import Derived.ShutString
import Derived.ChangeOld
import Derived.Below
import Derived.SizedLaws
set_option linter.unusedVariables false
set_option linter.unusedSimpArgs false
namespace Go.Proofs.Ytfhhpfhmplgndaa.Ev
open Go Go.RowKit
theorem encDec5 (x : Int) : E.dec 5 (E.enc 5 x) = some x := rfl
theorem encDec23 (x : Int) : E.dec 23 (E.enc 23 x) = some x := rfl
theorem encDec56 (x : Int × Int × Int × Int × Int × Int × Int × Int) : E.dec 56 (E.enc 56 x) = some x := rfl
theorem fact5 (x : Int) (hh : ∃ m, Shaped Try.prog E m 5 (E.enc 5 x)) : (Lit.int .u8 x).wf = true := by
  obtain ⟨m, h⟩ := hh
  generalize hx : E.enc 5 x = cs0 at h
  obtain ⟨n1, rfl, w2⟩ := shaped_int Try.underlying5 h
  have hi : x = n1 := Option.some.inj ((encDec5 x).symm.trans ((congrArg (E.dec 5) hx).trans (by rfl)))
  rw [hi]
  exact w2
theorem fact23 (x : Int) (hh : ∃ m, Shaped Try.prog E m 23 (E.enc 23 x)) : (Lit.int .i64 x).wf = true := by
  obtain ⟨m, h⟩ := hh
  generalize hx : E.enc 23 x = cs0 at h
  obtain ⟨n1, rfl, w2⟩ := shaped_int Try.underlying23 h
  have hi : x = n1 := Option.some.inj ((encDec23 x).symm.trans ((congrArg (E.dec 23) hx).trans (by rfl)))
  rw [hi]
  exact w2
theorem fact56 (x : Int × Int × Int × Int × Int × Int × Int × Int) (hh : ∃ m, Shaped Try.prog E m 56 (E.enc 56 x)) : (Lit.int .i64 x.1).wf = true ∧ (Lit.int .i64 x.2.1).wf = true ∧ (Lit.int .i64 x.2.2.1).wf = true ∧ (Lit.int .i64 x.2.2.2.1).wf = true ∧ (Lit.int .i64 x.2.2.2.2.1).wf = true ∧ (Lit.int .i64 x.2.2.2.2.2.1).wf = true ∧ (Lit.int .i64 x.2.2.2.2.2.2.1).wf = true ∧ (Lit.int .i64 x.2.2.2.2.2.2.2).wf = true := by
  obtain ⟨m, h⟩ := hh
  generalize hx : E.enc 56 x = cs0 at h
  obtain ⟨m1, p2, rfl, l3⟩ := shaped_array Try.underlying56 h
  obtain ⟨p4, p5, rfl, s6, l7⟩ := shapedL_cons (t := 23) (ts := [23, 23, 23, 23, 23, 23, 23]) l3
  obtain ⟨p8, p9, rfl, s10, l11⟩ := shapedL_cons (t := 23) (ts := [23, 23, 23, 23, 23, 23]) l7
  obtain ⟨p12, p13, rfl, s14, l15⟩ := shapedL_cons (t := 23) (ts := [23, 23, 23, 23, 23]) l11
  obtain ⟨p16, p17, rfl, s18, l19⟩ := shapedL_cons (t := 23) (ts := [23, 23, 23, 23]) l15
  obtain ⟨p20, p21, rfl, s22, l23⟩ := shapedL_cons (t := 23) (ts := [23, 23, 23]) l19
  obtain ⟨p24, p25, rfl, s26, l27⟩ := shapedL_cons (t := 23) (ts := [23, 23]) l23
  obtain ⟨p28, p29, rfl, s30, l31⟩ := shapedL_cons (t := 23) (ts := [23]) l27
  obtain ⟨p32, p33, rfl, s34, l35⟩ := shapedL_cons (t := 23) (ts := []) l31
  obtain rfl := shapedL_nil l35
  obtain ⟨n36, rfl, w37⟩ := shaped_int Try.underlying23 s6
  obtain ⟨n38, rfl, w39⟩ := shaped_int Try.underlying23 s10
  obtain ⟨n40, rfl, w41⟩ := shaped_int Try.underlying23 s14
  obtain ⟨n42, rfl, w43⟩ := shaped_int Try.underlying23 s18
  obtain ⟨n44, rfl, w45⟩ := shaped_int Try.underlying23 s22
  obtain ⟨n46, rfl, w47⟩ := shaped_int Try.underlying23 s26
  obtain ⟨n48, rfl, w49⟩ := shaped_int Try.underlying23 s30
  obtain ⟨n50, rfl, w51⟩ := shaped_int Try.underlying23 s34
  have hi : x = (n36, (n38, (n40, (n42, (n44, (n46, (n48, n50))))))) := Option.some.inj ((encDec56 x).symm.trans ((congrArg (E.dec 56) hx).trans (by rfl)))
  rw [hi]
  exact ⟨w37, w39, w41, w43, w45, w47, w49, w51⟩
theorem comp : ∀ n e cs0, e ∈ [5, 23, 56] → Shaped Try.prog E n e cs0 → ∃ x, E.enc e x = cs0 := by
  intro n e cs0 he h
  simp only [List.mem_cons, List.not_mem_nil, or_false] at he
  rcases he with rfl | rfl | rfl
  · obtain ⟨n1, rfl, w2⟩ := shaped_int Try.underlying5 h
    exact ⟨(n1 : Int), rfl⟩
  · obtain ⟨n1, rfl, w2⟩ := shaped_int Try.underlying23 h
    exact ⟨(n1 : Int), rfl⟩
  · obtain ⟨m1, p2, rfl, l3⟩ := shaped_array Try.underlying56 h
    obtain ⟨p4, p5, rfl, s6, l7⟩ := shapedL_cons (t := 23) (ts := [23, 23, 23, 23, 23, 23, 23]) l3
    obtain ⟨p8, p9, rfl, s10, l11⟩ := shapedL_cons (t := 23) (ts := [23, 23, 23, 23, 23, 23]) l7
    obtain ⟨p12, p13, rfl, s14, l15⟩ := shapedL_cons (t := 23) (ts := [23, 23, 23, 23, 23]) l11
    obtain ⟨p16, p17, rfl, s18, l19⟩ := shapedL_cons (t := 23) (ts := [23, 23, 23, 23]) l15
    obtain ⟨p20, p21, rfl, s22, l23⟩ := shapedL_cons (t := 23) (ts := [23, 23, 23]) l19
    obtain ⟨p24, p25, rfl, s26, l27⟩ := shapedL_cons (t := 23) (ts := [23, 23]) l23
    obtain ⟨p28, p29, rfl, s30, l31⟩ := shapedL_cons (t := 23) (ts := [23]) l27
    obtain ⟨p32, p33, rfl, s34, l35⟩ := shapedL_cons (t := 23) (ts := []) l31
    obtain rfl := shapedL_nil l35
    obtain ⟨n36, rfl, w37⟩ := shaped_int Try.underlying23 s6
    obtain ⟨n38, rfl, w39⟩ := shaped_int Try.underlying23 s10
    obtain ⟨n40, rfl, w41⟩ := shaped_int Try.underlying23 s14
    obtain ⟨n42, rfl, w43⟩ := shaped_int Try.underlying23 s18
    obtain ⟨n44, rfl, w45⟩ := shaped_int Try.underlying23 s22
    obtain ⟨n46, rfl, w47⟩ := shaped_int Try.underlying23 s26
    obtain ⟨n48, rfl, w49⟩ := shaped_int Try.underlying23 s30
    obtain ⟨n50, rfl, w51⟩ := shaped_int Try.underlying23 s34
    exact ⟨((n36, (n38, (n40, (n42, (n44, (n46, (n48, n50))))))) : Int × Int × Int × Int × Int × Int × Int × Int), rfl⟩
end Go.Proofs.Ytfhhpfhmplgndaa.Ev
namespace Go.Proofs.Ytfhhpfhmplgndaa.telemetryOf
open Go Ev
open Go.ChangeShapes Go.WideShapes Go.ChangeAt Go.RowKit
theorem own : ownKnob Try.prog.godebug = none := by kernel_rfl
theorem laidOut : laidOutB Try.prog = true := by kernel_rfl
set_option maxRecDepth 100000 in
theorem lifted (os : Os) (started : os.Started) (H : Type) (enc : TypeId × Value → H) :
    ReturnsInHanded {} Try.checked os 5 .any (Rows.telemetryOfSpec.pre6 enc Try.prog Try.f5 Rows.telemetryOfRow.domain false) (Rows.telemetryOfSpec.post enc Try.prog Try.f5 false true false false) := by
  refine returnsInHanded_of_change_sized (C := Try.checked) own started (by kernel_rfl) Try.func5
    (ChangeSpec.witness6 (enc := enc) (C := Try.checked) false ⟨#[], #[.agg #[.int .i64 0, .int .i64 0, .int .i64 0, .int .i64 0, .int .i64 0, .int .i64 0, .int .i64 0, .int .i64 0, .int .i64 0, .int .i64 0, .int .i64 0, .int .i64 0, .int .i64 0, .int .i64 0, .int .i64 0, .bool false, .int .i64 0, .int .i64 0, .bool false, .int .i64 0, .int .i64 0, .bool false, .int .i64 0, .int .i64 0, .bool false, .int .i64 0, .bool false, .int .i64 0, .int .i64 0, .int .u32 0, .int .i64 0, .int .i64 0, .bool false, .bool false, .int .i64 0, .int .i64 0, .int .i64 0, .int .i64 0, .int .i64 0, .bool false, .bool false]], []⟩ 8 (by kernel_rfl) (by kernel_rfl) (by kernel_rfl) (by kernel_rfl)) ?_
  intro W base args ds gs before hval0 hW hcnd hsz0 _
  have hval : ∀ (j : Nat) t v, Try.f5.params[j]? = some t → args[j]? = some v → Value.okWide Try.prog W .any base t v := hval0
  have hW' := hW
  obtain ⟨p, q, hA0, hV, rfl, hfz, hnd⟩ := hW
  have hA : DataW.TrodAll enc Try.prog W 0 (fun _ => true) true Try.f5.params.toList args.toList ds p := hA0
  rw [Try.params5] at hA hval
  obtain ⟨v0, vs0, d0, ds0, p0, q0, hargs, rfl, rfl, h0, r0⟩ := trodAll_cons hA
  obtain ⟨rfl, rfl, rfl⟩ := trodAll_nil r0
  obtain rfl : args = #[v0] := by cases args; simp_all
  obtain ⟨rfl, rfl⟩ := trodVars_none hV
  have k0 := h0
  have lt0 : ∀ x ∈ p0, x.block < W.heap.size := by obtain ⟨m, hm⟩ := k0; exact DataW.trod_lt m _ _ _ hm
  obtain ⟨t0, as0, sh0, re0⟩ := arg_agg envOk comp (by kernel_rfl) (by kernel_rfl) (hval 0 49 v0 rfl rfl) h0
  obtain ⟨m101, p102, rfl, l103⟩ := shaped_struct Try.underlying49 sh0
  obtain ⟨p104, p105, rfl, s106, l107⟩ := shapedL_cons (t := 38) (ts := [41, 45, 47, 4]) l103
  obtain ⟨p108, p109, rfl, s110, l111⟩ := shapedL_cons (t := 41) (ts := [45, 47, 4]) l107
  obtain ⟨p112, p113, rfl, s114, l115⟩ := shapedL_cons (t := 45) (ts := [47, 4]) l111
  obtain ⟨p116, p117, rfl, s118, l119⟩ := shapedL_cons (t := 47) (ts := [4]) l115
  obtain ⟨p120, p121, rfl, s122, l123⟩ := shapedL_cons (t := 4) (ts := []) l119
  obtain rfl := shapedL_nil l123
  obtain ⟨m124, p125, rfl, l126⟩ := shaped_struct Try.underlying38 s106
  obtain ⟨p127, p128, rfl, s129, l130⟩ := shapedL_cons (t := 34) (ts := [34, 36, 34]) l126
  obtain ⟨p131, p132, rfl, s133, l134⟩ := shapedL_cons (t := 34) (ts := [36, 34]) l130
  obtain ⟨p135, p136, rfl, s137, l138⟩ := shapedL_cons (t := 36) (ts := [34]) l134
  obtain ⟨p139, p140, rfl, s141, l142⟩ := shapedL_cons (t := 34) (ts := []) l138
  obtain rfl := shapedL_nil l142
  obtain ⟨m143, p144, rfl, l145⟩ := shaped_struct Try.underlying34 s129
  obtain ⟨p146, p147, rfl, s148, l149⟩ := shapedL_cons (t := 23) (ts := [23, 23]) l145
  obtain ⟨p150, p151, rfl, s152, l153⟩ := shapedL_cons (t := 23) (ts := [23]) l149
  obtain ⟨p154, p155, rfl, s156, l157⟩ := shapedL_cons (t := 23) (ts := []) l153
  obtain rfl := shapedL_nil l157
  obtain ⟨n158, rfl, w159⟩ := shaped_int Try.underlying23 s148
  obtain ⟨n160, rfl, w161⟩ := shaped_int Try.underlying23 s152
  obtain ⟨n162, rfl, w163⟩ := shaped_int Try.underlying23 s156
  obtain ⟨m164, p165, rfl, l166⟩ := shaped_struct Try.underlying34 s133
  obtain ⟨p167, p168, rfl, s169, l170⟩ := shapedL_cons (t := 23) (ts := [23, 23]) l166
  obtain ⟨p171, p172, rfl, s173, l174⟩ := shapedL_cons (t := 23) (ts := [23]) l170
  obtain ⟨p175, p176, rfl, s177, l178⟩ := shapedL_cons (t := 23) (ts := []) l174
  obtain rfl := shapedL_nil l178
  obtain ⟨n179, rfl, w180⟩ := shaped_int Try.underlying23 s169
  obtain ⟨n181, rfl, w182⟩ := shaped_int Try.underlying23 s173
  obtain ⟨n183, rfl, w184⟩ := shaped_int Try.underlying23 s177
  obtain ⟨m185, p186, rfl, l187⟩ := shaped_struct Try.underlying36 s137
  obtain ⟨p188, p189, rfl, s190, l191⟩ := shapedL_cons (t := 23) (ts := [23, 23, 23]) l187
  obtain ⟨p192, p193, rfl, s194, l195⟩ := shapedL_cons (t := 23) (ts := [23, 23]) l191
  obtain ⟨p196, p197, rfl, s198, l199⟩ := shapedL_cons (t := 23) (ts := [23]) l195
  obtain ⟨p200, p201, rfl, s202, l203⟩ := shapedL_cons (t := 23) (ts := []) l199
  obtain rfl := shapedL_nil l203
  obtain ⟨n204, rfl, w205⟩ := shaped_int Try.underlying23 s190
  obtain ⟨n206, rfl, w207⟩ := shaped_int Try.underlying23 s194
  obtain ⟨n208, rfl, w209⟩ := shaped_int Try.underlying23 s198
  obtain ⟨n210, rfl, w211⟩ := shaped_int Try.underlying23 s202
  obtain ⟨m212, p213, rfl, l214⟩ := shaped_struct Try.underlying34 s141
  obtain ⟨p215, p216, rfl, s217, l218⟩ := shapedL_cons (t := 23) (ts := [23, 23]) l214
  obtain ⟨p219, p220, rfl, s221, l222⟩ := shapedL_cons (t := 23) (ts := [23]) l218
  obtain ⟨p223, p224, rfl, s225, l226⟩ := shapedL_cons (t := 23) (ts := []) l222
  obtain rfl := shapedL_nil l226
  obtain ⟨n227, rfl, w228⟩ := shaped_int Try.underlying23 s217
  obtain ⟨n229, rfl, w230⟩ := shaped_int Try.underlying23 s221
  obtain ⟨n231, rfl, w232⟩ := shaped_int Try.underlying23 s225
  obtain ⟨m233, p234, rfl, l235⟩ := shaped_array Try.underlying41 s110
  obtain ⟨p236, p237, rfl, s238, l239⟩ := shapedL_cons (t := 40) (ts := [40, 40, 40]) l235
  obtain ⟨p240, p241, rfl, s242, l243⟩ := shapedL_cons (t := 40) (ts := [40, 40]) l239
  obtain ⟨p244, p245, rfl, s246, l247⟩ := shapedL_cons (t := 40) (ts := [40]) l243
  obtain ⟨p248, p249, rfl, s250, l251⟩ := shapedL_cons (t := 40) (ts := []) l247
  obtain rfl := shapedL_nil l251
  obtain ⟨m252, p253, rfl, l254⟩ := shaped_struct Try.underlying40 s238
  obtain ⟨p255, p256, rfl, s257, l258⟩ := shapedL_cons (t := 23) (ts := [23, 4]) l254
  obtain ⟨p259, p260, rfl, s261, l262⟩ := shapedL_cons (t := 23) (ts := [4]) l258
  obtain ⟨p263, p264, rfl, s265, l266⟩ := shapedL_cons (t := 4) (ts := []) l262
  obtain rfl := shapedL_nil l266
  obtain ⟨n267, rfl, w268⟩ := shaped_int Try.underlying23 s257
  obtain ⟨n269, rfl, w270⟩ := shaped_int Try.underlying23 s261
  obtain ⟨n271, rfl⟩ := shaped_bool Try.underlying4 s265
  obtain ⟨m272, p273, rfl, l274⟩ := shaped_struct Try.underlying40 s242
  obtain ⟨p275, p276, rfl, s277, l278⟩ := shapedL_cons (t := 23) (ts := [23, 4]) l274
  obtain ⟨p279, p280, rfl, s281, l282⟩ := shapedL_cons (t := 23) (ts := [4]) l278
  obtain ⟨p283, p284, rfl, s285, l286⟩ := shapedL_cons (t := 4) (ts := []) l282
  obtain rfl := shapedL_nil l286
  obtain ⟨n287, rfl, w288⟩ := shaped_int Try.underlying23 s277
  obtain ⟨n289, rfl, w290⟩ := shaped_int Try.underlying23 s281
  obtain ⟨n291, rfl⟩ := shaped_bool Try.underlying4 s285
  obtain ⟨m292, p293, rfl, l294⟩ := shaped_struct Try.underlying40 s246
  obtain ⟨p295, p296, rfl, s297, l298⟩ := shapedL_cons (t := 23) (ts := [23, 4]) l294
  obtain ⟨p299, p300, rfl, s301, l302⟩ := shapedL_cons (t := 23) (ts := [4]) l298
  obtain ⟨p303, p304, rfl, s305, l306⟩ := shapedL_cons (t := 4) (ts := []) l302
  obtain rfl := shapedL_nil l306
  obtain ⟨n307, rfl, w308⟩ := shaped_int Try.underlying23 s297
  obtain ⟨n309, rfl, w310⟩ := shaped_int Try.underlying23 s301
  obtain ⟨n311, rfl⟩ := shaped_bool Try.underlying4 s305
  obtain ⟨m312, p313, rfl, l314⟩ := shaped_struct Try.underlying40 s250
  obtain ⟨p315, p316, rfl, s317, l318⟩ := shapedL_cons (t := 23) (ts := [23, 4]) l314
  obtain ⟨p319, p320, rfl, s321, l322⟩ := shapedL_cons (t := 23) (ts := [4]) l318
  obtain ⟨p323, p324, rfl, s325, l326⟩ := shapedL_cons (t := 4) (ts := []) l322
  obtain rfl := shapedL_nil l326
  obtain ⟨n327, rfl, w328⟩ := shaped_int Try.underlying23 s317
  obtain ⟨n329, rfl, w330⟩ := shaped_int Try.underlying23 s321
  obtain ⟨n331, rfl⟩ := shaped_bool Try.underlying4 s325
  obtain ⟨m332, p333, rfl, l334⟩ := shaped_struct Try.underlying45 s114
  obtain ⟨p335, p336, rfl, s337, l338⟩ := shapedL_cons (t := 23) (ts := [4, 3, 3, 43]) l334
  obtain ⟨p339, p340, rfl, s341, l342⟩ := shapedL_cons (t := 4) (ts := [3, 3, 43]) l338
  obtain ⟨p343, p344, rfl, s345, l346⟩ := shapedL_cons (t := 3) (ts := [3, 43]) l342
  obtain ⟨p347, p348, rfl, s349, l350⟩ := shapedL_cons (t := 3) (ts := [43]) l346
  obtain ⟨p351, p352, rfl, s353, l354⟩ := shapedL_cons (t := 43) (ts := []) l350
  obtain rfl := shapedL_nil l354
  obtain ⟨n355, rfl, w356⟩ := shaped_int Try.underlying23 s337
  obtain ⟨n357, rfl⟩ := shaped_bool Try.underlying4 s341
  obtain ⟨n358, rfl, w359⟩ := shaped_int Try.underlying3 s345
  obtain ⟨n360, rfl, w361⟩ := shaped_int Try.underlying3 s349
  obtain ⟨n362, rfl, w363⟩ := shaped_int Try.underlying43 s353
  obtain ⟨m364, p365, rfl, l366⟩ := shaped_struct Try.underlying47 s118
  obtain ⟨p367, p368, rfl, s369, l370⟩ := shapedL_cons (t := 3) (ts := [3, 4, 4, 26, 26, 26, 3, 3, 4]) l366
  obtain ⟨p371, p372, rfl, s373, l374⟩ := shapedL_cons (t := 3) (ts := [4, 4, 26, 26, 26, 3, 3, 4]) l370
  obtain ⟨p375, p376, rfl, s377, l378⟩ := shapedL_cons (t := 4) (ts := [4, 26, 26, 26, 3, 3, 4]) l374
  obtain ⟨p379, p380, rfl, s381, l382⟩ := shapedL_cons (t := 4) (ts := [26, 26, 26, 3, 3, 4]) l378
  obtain ⟨p383, p384, rfl, s385, l386⟩ := shapedL_cons (t := 26) (ts := [26, 26, 3, 3, 4]) l382
  obtain ⟨p387, p388, rfl, s389, l390⟩ := shapedL_cons (t := 26) (ts := [26, 3, 3, 4]) l386
  obtain ⟨p391, p392, rfl, s393, l394⟩ := shapedL_cons (t := 26) (ts := [3, 3, 4]) l390
  obtain ⟨p395, p396, rfl, s397, l398⟩ := shapedL_cons (t := 3) (ts := [3, 4]) l394
  obtain ⟨p399, p400, rfl, s401, l402⟩ := shapedL_cons (t := 3) (ts := [4]) l398
  obtain ⟨p403, p404, rfl, s405, l406⟩ := shapedL_cons (t := 4) (ts := []) l402
  obtain rfl := shapedL_nil l406
  obtain ⟨n407, rfl, w408⟩ := shaped_int Try.underlying3 s369
  obtain ⟨n409, rfl, w410⟩ := shaped_int Try.underlying3 s373
  obtain ⟨n411, rfl⟩ := shaped_bool Try.underlying4 s377
  obtain ⟨n412, rfl⟩ := shaped_bool Try.underlying4 s381
  obtain ⟨n413, rfl, w414⟩ := shaped_int Try.underlying26 s385
  obtain ⟨n415, rfl, w416⟩ := shaped_int Try.underlying26 s389
  obtain ⟨n417, rfl, w418⟩ := shaped_int Try.underlying26 s393
  obtain ⟨n419, rfl, w420⟩ := shaped_int Try.underlying3 s397
  obtain ⟨n421, rfl, w422⟩ := shaped_int Try.underlying3 s401
  obtain ⟨n423, rfl⟩ := shaped_bool Try.underlying4 s405
  obtain ⟨n424, rfl⟩ := shaped_bool Try.underlying4 s122
  clear hA0 hval0 hsz0
  refine (law_ok (vals := [v0]) (v := (n158, (n160, (n162, (n179, (n181, (n183, (n204, (n206, (n208, (n210, (n227, (n229, (n231, (n267, (n269, (n271, (n287, (n289, (n291, (n307, (n309, (n311, (n327, (n329, (n331, (n355, (n357, (n358, (n360, (n362, (n407, (n409, (n411, (n412, (n413, (n415, (n417, (n419, (n421, (n423, n424))))))))))))))))))))))))))))))))))))))))) Try.func5 (by kernel_rfl) rfl ok5_0 (fun _ => rfl) rfl (law5_0 _ ⟨w159, w161, w163, w180, w182, w184, w205, w207, w209, w211, w228, w230, w232, w268, w270, w288, w290, w308, w310, w328, w330, w356, w359, w361, w363, w408, w410, w414, w416, w418, w420, w422⟩) (fun c hc => Reps.cons (re0 c hc) (Reps.nil _))).mono fun e W' ⟨he, bel⟩ => ?_
  subst he
  exact ⟨_, rfl, _, _, _, [], _, [], hW', trodAll_mk1 (shut_bool Try.underlying4 _), (trodAll_cons_mk (Below.trod laidOut (by kernel_rfl) (of_decide_eq_true (by kernel_rfl)) k0 bel lt0) trodAll_mk0), rfl, bel.frame _, fun h => by cases h⟩
theorem over : Rows.telemetryOfRow.holds Try.pinned (OpenSpec.ofChange Rows.telemetryOfSpec) :=
  OpenClaim.holds_of_wide 5 Try.f5 rfl rfl rfl rfl rfl rfl rfl ⟨rfl, rfl, rfl, rfl, rfl⟩ rfl rfl rfl rfl rfl (by kernel_rfl) Try.func5 (by kernel_rfl)
    (of_decide_eq_true (by kernel_rfl)) (by unfold Func.isWrapper; first | (rw [if_pos (by decide +kernel)]; kernel_rfl) | (rw [if_neg (by decide +kernel)]; exact ⟨rfl, rfl⟩))
    (fun os started H enc _ => lifted os started H enc)
end Go.Proofs.Ytfhhpfhmplgndaa.telemetryOf
namespace Go.Proofs.Ytfhhpfhmplgndaa
/-- TelemetryOf: for every input the statement is true; the input reads behind as it did. -/
theorem telemetryOf_holds : Rows.TelemetryOfSaid := telemetryOf.over
#print axioms telemetryOf_holds
end Go.Proofs.Ytfhhpfhmplgndaa
