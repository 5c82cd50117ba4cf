/- How much a way bends. -/
import Derived.Test.YtbmbnopgekbppaaMLen
import Derived.Test.YtbmbnopgekbppaaMFx
import Derived.Test.YtbmbnopgekbppaaMRef
set_option linter.unusedVariables false
set_option linter.unusedSimpArgs false
namespace Go.Proofs.Ytbmbnopgekbppaa.Ev
open Go

theorem bnd' {α β : Type} (a : α) (f : α → Option β) : (some a).bind f = f a := (congrArg (fun x => Option.bind x f) (Eq.refl (some a))).trans (Eq.refl (f a))
theorem b64 {n : Int} (h : -9223372036854775808 ≤ n ∧ n ≤ 9223372036854775807) : IntKind.wrap .i64 n = n := wrap_i64 h
theorem add_p {a b : Int} (ha : I64 a) (hb : I64 b) (o : Bool) : F25_0 ((a, b), o) = some (sat (a + b), o || ovf (a + b)) := by
  have ha' := ha; have hb' := hb
  unfold I64 at ha' hb'
  unfold F25_0
  simp only [ofw_eq ha, ofw_eq hb, Option.bind_some]
  rw [addw_eq (wd_ok (by unfold I128; omega)) (wd_ok (by unfold I128; omega)) (by rw [wv_wd, wv_wd]; unfold I128; omega), wv_wd, wv_wd]
  simp only [Option.bind_some]
  rw [fit_p (by unfold I128; omega)]; rfl
theorem sat_hi {x : Int} (h : x > 9223372036854775807) : sat x = 9223372036854775807 ∧ ovf x = true := ⟨by unfold sat; rw [if_pos h], by unfold ovf; simp; omega⟩
theorem sat_lo {x : Int} (h : x < -9223372036854775808) : sat x = -9223372036854775808 ∧ ovf x = true := ⟨by unfold sat; rw [if_neg (by omega), if_pos h], by unfold ovf; simp; omega⟩
theorem radd_eq {a b : Int} (ha : I64 a) (hb : I64 b) (o : Bool) : F36_0 ((a, b), o) = some (sat (a + b), o || ovf (a + b)) := by
  unfold I64 at ha hb
  unfold F36_0
  simp only [rbound_eq, Option.bind_some]
  by_cases h1 : b > 0
  · rw [decide_eq_true h1, cond_true, b64 (show -9223372036854775808 ≤ 9223372036854775807 - b ∧ 9223372036854775807 - b ≤ 9223372036854775807 by omega)]
    by_cases h2 : a > 9223372036854775807 - b
    · rw [decide_eq_true h2, cond_true, (sat_hi (x := a + b) (by omega)).1, (sat_hi (x := a + b) (by omega)).2, Bool.or_true]; rfl
    · rw [decide_eq_false h2, cond_false, decide_eq_false (show ¬ b < 0 by omega), cond_false, b64 (by omega), sat_in (by unfold I64; omega), ovf_in (by unfold I64; omega), Bool.or_false]
  · rw [decide_eq_false h1, cond_false]
    by_cases h2 : b < 0
    · rw [decide_eq_true h2, cond_true, b64 (show -9223372036854775808 ≤ -9223372036854775808 - b ∧ -9223372036854775808 - b ≤ 9223372036854775807 by omega)]
      by_cases h3 : a < -9223372036854775808 - b
      · rw [decide_eq_true h3, cond_true, (sat_lo (x := a + b) (by omega)).1, (sat_lo (x := a + b) (by omega)).2, Bool.or_true]; rfl
      · rw [decide_eq_false h3, cond_false, b64 (by omega), sat_in (by unfold I64; omega), ovf_in (by unfold I64; omega), Bool.or_false]
    · rw [decide_eq_false h2, cond_false, b64 (by omega), sat_in (by unfold I64; omega), ovf_in (by unfold I64; omega), Bool.or_false]
theorem rsub_eq {a b : Int} (ha : I64 a) (hb : I64 b) (o : Bool) : F31_0 ((a, b), o) = some (sat (a - b), o || ovf (a - b)) := by
  unfold I64 at ha hb
  unfold F31_0
  simp only [rbound_eq, Option.bind_some]
  by_cases h1 : b < 0
  · rw [decide_eq_true h1, cond_true, b64 (show -9223372036854775808 ≤ 9223372036854775807 + b ∧ 9223372036854775807 + b ≤ 9223372036854775807 by omega)]
    by_cases h2 : a > 9223372036854775807 + b
    · rw [decide_eq_true h2, cond_true, (sat_hi (x := a - b) (by omega)).1, (sat_hi (x := a - b) (by omega)).2, Bool.or_true]; rfl
    · rw [decide_eq_false h2, cond_false, decide_eq_false (show ¬ b > 0 by omega), cond_false, b64 (by omega), sat_in (by unfold I64; omega), ovf_in (by unfold I64; omega), Bool.or_false]
  · rw [decide_eq_false h1, cond_false]
    by_cases h2 : b > 0
    · rw [decide_eq_true h2, cond_true, b64 (show -9223372036854775808 ≤ -9223372036854775808 + b ∧ -9223372036854775808 + b ≤ 9223372036854775807 by omega)]
      by_cases h3 : a < -9223372036854775808 + b
      · rw [decide_eq_true h3, cond_true, (sat_lo (x := a - b) (by omega)).1, (sat_lo (x := a - b) (by omega)).2, Bool.or_true]; rfl
      · rw [decide_eq_false h3, cond_false, b64 (by omega), sat_in (by unfold I64; omega), ovf_in (by unfold I64; omega), Bool.or_false]
    · rw [decide_eq_false h2, cond_false, b64 (by omega), sat_in (by unfold I64; omega), ovf_in (by unfold I64; omega), Bool.or_false]
/-! ### Alike -/
theorem subS {a b : Int} (ha : I64 a) (hb : I64 b) (o : Bool) : ∃ v o', I64 v ∧ F23_0 ((a, b), o) = some (v, o') ∧ F31_0 ((a, b), o) = some (v, o') := ⟨_, _, sat_i64 _, sub_p ha hb o, rsub_eq ha hb o⟩
theorem addS {a b : Int} (ha : I64 a) (hb : I64 b) (o : Bool) : ∃ v o', I64 v ∧ F25_0 ((a, b), o) = some (v, o') ∧ F36_0 ((a, b), o) = some (v, o') := ⟨_, _, sat_i64 _, add_p ha hb o, radd_eq ha hb o⟩
theorem mulSm {a b : Int} (ha : I64 a) (hb : I64 b) (o : Bool) : ∃ v o', I64 v ∧ F26_0 ((a, b), o) = some (v, o') ∧ F32_0 ((a, b), o) = some (v, o') := ⟨_, _, sat_i64 _, mul_p ha hb o, rmul_eq ha hb o⟩
theorem divSm {a b : Int} (ha : I64 a) (hb : I64 b) (o : Bool) : ∃ v o', I64 v ∧ F29_0 ((a, b), o) = some (v, o') ∧ F34_0 ((a, b), o) = some (v, o') := ⟨_, _, divS_i64 _ _, div_p ha hb o, rdiv_eq ha hb o⟩
theorem absSm {a : Int} (ha : I64 a) (o : Bool) : ∃ v o', I64 v ∧ F30_0 (a, o) = some (v, o') ∧ F35_0 (a, o) = some (v, o') := by
  refine ⟨absS a, o || absO a, ?_, abs_p ha o, ?_⟩
  · unfold absS; split
    · exact sat_i64 _
    · exact ha
  · unfold F35_0 absS absO
    simp only []
    by_cases h : a < 0
    · rw [decide_eq_true h, cond_true, if_pos h]
      unfold F64_0
      simp only []
      rw [rsub_eq (by unfold I64; omega) ha, show (0 : Int) - a = -a by omega]
      rfl
    · rw [decide_eq_false h, cond_false, if_neg h, Bool.false_and, Bool.or_false]
theorem lenP_i64 {s : Int} {o : Bool} {res : Int × Bool} (h : LenP s o res) : I64 res.1 := by
  rcases h with ⟨_, r, hr, e⟩ | ⟨_, e⟩
  · rw [e]; have := hr.1; split <;> (unfold I64; simp only []; omega)
  · rw [e]; unfold I64; simp only []; omega
theorem len2S {x y : Int} (hx : I64 x) (hy : I64 y) (o : Bool) : ∃ v o', I64 v ∧ F22_0 ((x, y), o) = some (v, o') ∧ F62_0 ((x, y), o) = some (v, o') := by
  obtain ⟨a, e1, h1⟩ := len_loop [x, y] (by simp) (by intro a ha; simp at ha; rcases ha with rfl | rfl <;> assumption) o 2 0 1000 0 rfl (by omega) (by decide) (by decide)
  obtain ⟨b, e2, h2⟩ := len3_ref hx hy (z := 0) (by unfold I64; omega) o
  have es : (0 : Int) + sumSq ([x, y].drop 0) = x * x + y * y + 0 * 0 := by show 0 + (x * x + (y * y + 0)) = _; omega
  rw [es] at h1
  obtain rfl := lenP_uniq h1 h2
  refine ⟨a.1, a.2, lenP_i64 h1, ?_, ?_⟩
  · have e' : F48_0 ([x, y], o) = some a := e1
    unfold F22_0
    simp only []
    rw [e']; rfl
  · unfold F62_0
    simp only []
    rw [e2]; rfl
theorem sqrtS {v : Int} (hv : I64 v) : ∃ r, I64 r ∧ F24_0 v = some r ∧ F37_0 v = some r := by
  have h32 : I64 4294967296 := by unfold I64; omega
  have hv' := hv
  unfold I64 at hv'
  unfold F24_0 F37_0
  simp only [mulw_eq hv h32, bnd']
  by_cases h0 : v ≤ 0
  · refine ⟨0, by unfold I64; omega, ?_, by rw [decide_eq_true h0, cond_true]⟩
    have : F54_0 (wd (v * 4294967296)) = some 0 := by
      unfold F54_0 E54_0
      by_cases h1 : v = 0
      · subst h1; rfl
      · rw [decide_eq_true (show (wd (v * 4294967296)).1 < 0 by unfold wd; simp only []; omega), cond_true]
    rw [this, bnd']; rfl
  · obtain ⟨r, e1, e2, hr, hu⟩ := roots_same (m := v * 4294967296) (by omega) (by omega)
    refine ⟨IntKind.wrap .i64 r, wrap_i64_i64 _, by rw [e1, bnd'], ?_⟩
    rw [decide_eq_false h0, cond_false, mul1_eq hv h32, bnd', e2, bnd']
theorem bendS {a b c : Int × Int} (ha : I64 a.1 ∧ I64 a.2) (hb : I64 b.1 ∧ I64 b.2) (hc : I64 c.1 ∧ I64 c.2) (o : Bool) : ∃ v o', I64 v ∧ F8_0 ((a, (b, c)), o) = some (v, o') ∧ F9_0 ((a, (b, c)), o) = some (v, o') := by
  unfold F8_0 F9_0 F28_0 F33_0 F27_0
  simp only []
  obtain ⟨ux, o1, i1, p, q⟩ := subS hb.1 ha.1 o
  simp only [p, q, bnd']
  obtain ⟨uy, o2, i2, p, q⟩ := subS hb.2 ha.2 o1
  simp only [p, q, bnd']
  obtain ⟨vx, o3, i3, p, q⟩ := subS hc.1 hb.1 o2
  simp only [p, q, bnd']
  obtain ⟨vy, o4, i4, p, q⟩ := subS hc.2 hb.2 o3
  simp only [p, q, bnd']
  obtain ⟨m1, o5, i5, p, q⟩ := mulSm i1 i4 o4
  simp only [p, q, bnd']
  obtain ⟨m2, o6, i6, p, q⟩ := mulSm i2 i3 o5
  simp only [p, q, bnd']
  obtain ⟨ar, o7, i7, p, q⟩ := subS i5 i6 o6
  simp only [p, q, bnd']
  obtain ⟨w1, o8, j1, p, q⟩ := subS hb.1 ha.1 o7
  simp only [p, q, bnd']
  obtain ⟨w2, o9, j2, p, q⟩ := subS hb.2 ha.2 o8
  simp only [p, q, bnd']
  obtain ⟨f1, o10, j3, p, q⟩ := len2S j1 j2 o9
  simp only [p, q, bnd']
  obtain ⟨w3, o11, j4, p, q⟩ := subS hc.1 hb.1 o10
  simp only [p, q, bnd']
  obtain ⟨w4, o12, j5, p, q⟩ := subS hc.2 hb.2 o11
  simp only [p, q, bnd']
  obtain ⟨f2, o13, j6, p, q⟩ := len2S j4 j5 o12
  simp only [p, q, bnd']
  obtain ⟨g1, o14, j7, p, q⟩ := mulSm j3 j6 o13
  simp only [p, q, bnd']
  obtain ⟨w5, o15, j8, p, q⟩ := subS ha.1 hc.1 o14
  simp only [p, q, bnd']
  obtain ⟨w6, o16, j9, p, q⟩ := subS ha.2 hc.2 o15
  simp only [p, q, bnd']
  obtain ⟨f3, o17, k1, p, q⟩ := len2S j8 j9 o16
  simp only [p, q, bnd']
  obtain ⟨rd, o18, k2, p, q⟩ := mulSm j7 k1 o17
  simp only [p, q, bnd']
  cases hz : rd == 0 with
  | true => exact ⟨0, o18, by unfold I64; omega, rfl, rfl⟩
  | false =>
    simp only [cond_false]
    obtain ⟨ar2, o19, k3, p, q⟩ := addS i7 i7 o18
    simp only [p, q, bnd']
    obtain ⟨ab2, o20, k4, p, q⟩ := absSm k3 o19
    simp only [p, q, bnd']
    obtain ⟨res, o21, k5, p, q⟩ := divSm k4 k2 o20
    simp only [p, q, bnd']
    exact ⟨res, o21, k5, rfl, rfl⟩
theorem limitS {b s t : Int} (hb : I64 b) (hs : I64 s) (ht : I64 t) (o : Bool) : ∃ v o', I64 v ∧ F10_0 ((b, (s, t)), o) = some (v, o') ∧ F11_0 ((b, (s, t)), o) = some (v, o') := by
  unfold F10_0 F11_0
  simp only []
  cases hz : b == 0 with
  | true => exact ⟨t, o, ht, rfl, rfl⟩
  | false =>
    simp only [cond_false]
    obtain ⟨d, o1, i1, p, q⟩ := divSm hs hb o
    simp only [p, q, bnd']
    obtain ⟨r, i2, p, q⟩ := sqrtS i1
    simp only [p, q, bnd']
    refine ⟨if r < t then r else t, o1, by split <;> assumption, rfl, ?_⟩
    refine some_eq (pair_eq ?_ rfl)
    split <;> split <;> omega
theorem awake52 : F12_0 () = some true := by kernel_rfl
theorem pwf64 {n : Int} (h : (Lit.int .i64 n).wf = true) : I64 n := by
  have : IntKind.i64.min ≤ n ∧ n ≤ IntKind.i64.max := by simpa [Lit.wf] using h
  exact this
theorem law3_0 (v) (h : Dom3_0 v) : F3_0 v = some true := by
  obtain ⟨⟨a1, a2, b1, b2, c1, c2⟩, k1, k2, k3⟩ := v
  obtain ⟨⟨h1, h2, h3, h4, h5, h6⟩, h7, h8, h9⟩ := h
  unfold F3_0
  simp only []
  obtain ⟨r, o, i1, p, q⟩ := bendS (a := (a1, a2)) (b := (b1, b2)) (c := (c1, c2)) ⟨pwf64 h1, pwf64 h2⟩ ⟨pwf64 h3, pwf64 h4⟩ ⟨pwf64 h5, pwf64 h6⟩ false
  have b1' : ∀ x : Int, (x != x) = false := fun x => by simp
  have b2' : ∀ x : Int, (x == x) = true := fun x => by simp
  have b3' : ∀ x : Bool, (x == x) = true := fun x => by simp
  simp only [p, q, bnd', b1', b3', cond_false, Bool.not_true]
  obtain ⟨l, o2, i2, p, q⟩ := limitS (b := k1) (s := k2) (t := k3) (pwf64 h7) (pwf64 h8) (pwf64 h9) o
  simp only [p, q, bnd', b2', b3', cond_true, awake52]
end Go.Proofs.Ytbmbnopgekbppaa.Ev
