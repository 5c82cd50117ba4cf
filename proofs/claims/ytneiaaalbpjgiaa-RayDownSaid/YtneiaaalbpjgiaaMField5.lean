/- The ground: heights, normals, kinds. -/
import Derived.Test.YtneiaaalbpjgiaaMField4
set_option linter.unusedVariables false
set_option linter.unusedSimpArgs false
namespace Go.Proofs.Ytneiaaalbpjgiaa.Ev
open Go

theorem add_p {a b : Int} (ha : I64 a) (hb : I64 b) (o : Bool) : F31_0 ((a, b), o) = some (sat (a + b), o || ovf (a + b)) := by
  have ha' := ha; have hb' := hb
  unfold I64 at ha' hb'
  unfold F31_0
  simp only [ofw_eq ha, ofw_eq hb, Option.bind_some]
  rw [addw_eq (wd_ok (by unfold I128; omega)) (wd_ok (by unfold I128; omega)) (by rw [wv_wd, wv_wd]; unfold I128; omega), wv_wd, wv_wd]
  simp only [Option.bind_some]
  rw [fit_p (by unfold I128; omega)]; rfl
theorem addI {a b : Int} (ha : I64 a) (hb : I64 b) (h : -9223372036854775808 ≤ a + b ∧ a + b ≤ 9223372036854775807) (o : Bool) : F31_0 ((a, b), o) = some (a + b, o) := by
  rw [add_p ha hb, sat_in h, ovf_in h, Bool.or_false]
theorem subI {a b : Int} (ha : I64 a) (hb : I64 b) (h : -9223372036854775808 ≤ a - b ∧ a - b ≤ 9223372036854775807) (o : Bool) : F29_0 ((a, b), o) = some (a - b, o) := by
  rw [sub_p ha hb, sat_in h, ovf_in h, Bool.or_false]
theorem absI {a : Int} (h : -9223372036854775807 ≤ a ∧ a ≤ 9223372036854775807) (o : Bool) : F30_0 (a, o) = some (if a < 0 then -a else a, o) := by
  rw [abs_p (i64_of (by omega))]
  unfold absS absO
  by_cases c : a < 0
  · rw [if_pos c, if_pos c, sat_in (i64_of (by omega)), ovf_in (i64_of (by omega)), Bool.and_false, Bool.or_false]
  · rw [if_neg c, if_neg c, decide_eq_false c, Bool.false_and, Bool.or_false]
theorem raddI {a b : Int} (ha : I64 a) (hb : I64 b) (h : -9223372036854775808 ≤ a + b ∧ a + b ≤ 9223372036854775807) (o : Bool) : F57_0 ((a, b), o) = some (a + b, o) := by
  unfold I64 at ha hb
  unfold F57_0
  simp only [rbound_eq, Option.bind_some]
  by_cases h1 : b > 0
  · rw [decide_eq_true h1, cond_true, f64 (by omega), decide_eq_false (by omega), cond_false, decide_eq_false (by omega), cond_false, f64 h]
  · rw [decide_eq_false h1, cond_false]
    by_cases h2 : b < 0
    · rw [decide_eq_true h2, cond_true, f64 (by omega), decide_eq_false (by omega), cond_false, f64 h]
    · rw [decide_eq_false h2, cond_false, f64 h]
theorem rnegI {a : Int} (h : -9223372036854775807 ≤ a ∧ a ≤ 9223372036854775807) (o : Bool) : F91_0 (a, o) = some (-a, o) := by
  unfold F91_0 F104_0
  simp only [rbound_eq, Option.bind_some]
  by_cases h1 : a < 0
  · rw [decide_eq_true h1, cond_true, f64 (by omega), decide_eq_false (by omega), cond_false, decide_eq_false (by omega), cond_false, f64 (by omega), show (0 : Int) - a = -a by omega]
    rfl
  · rw [decide_eq_false h1, cond_false]
    by_cases h2 : a > 0
    · rw [decide_eq_true h2, cond_true, f64 (by omega), decide_eq_false (by omega), cond_false, f64 (by omega), show (0 : Int) - a = -a by omega]
      rfl
    · rw [decide_eq_false h2, cond_false, f64 (by omega), show (0 : Int) - a = -a by omega]
      rfl
/-- A slope times a way. -/
theorem slpmul {a d : Int} (ha : -4294967296 ≤ a ∧ a ≤ 4294967296) (hd : -422212465065984 ≤ d ∧ d ≤ 422212465065984) :
    (-422212465065984 ≤ mulR a d ∧ mulR a d ≤ 422212465065984) ∧ -4294967296 ≤ 2 * (mulR a d * 4294967296 - a * d) ∧ 2 * (mulR a d * 4294967296 - a * d) ≤ 4294967296 := by
  have h := Int.natAbs_mul a d
  have h3 := Nat.mul_le_mul (show a.natAbs ≤ 4294967296 by omega) (show d.natAbs ≤ 422212465065984 by omega)
  rw [← h] at h3
  unfold mulR
  have n := rhe_near (n := a * d) (d := 4294967296) (by decide)
  generalize a * d = p at *
  have a1 := rhe_le (n := p) (d := 4294967296) (M := 422212465065984) (by decide) (by omega)
  have a2 := rhe_ge (n := p) (d := 4294967296) (M := -422212465065984) (by decide) (by omega)
  exact ⟨⟨a2, a1⟩, n⟩
theorem mulI {a d : Int} (ha : -4294967296 ≤ a ∧ a ≤ 4294967296) (hd : -422212465065984 ≤ d ∧ d ≤ 422212465065984) (o : Bool) :
    F56_0 ((a, d), o) = some (mulR a d, o) ∧ F58_0 ((a, d), o) = some (mulR a d, o) := by
  have h := (slpmul ha hd).1
  have e : mulS a d = mulR a d := sat_in (i64_of (by omega))
  rw [mul_p (i64_of (by omega)) (i64_of (by omega)), rmul_eq (i64_of (by omega)) (i64_of (by omega)), e, ovf_in (i64_of (by omega)), Bool.or_false]
  exact ⟨rfl, rfl⟩
theorem slS_in {t : TR} (hC : CntP t) (hR : RngP t) {a b : Int} (h : InC t a b) (up : Bool) : (-4294967296 ≤ (slS t a b up).1 ∧ (slS t a b up).1 ≤ 4294967296) ∧ -4294967296 ≤ (slS t a b up).2 ∧ (slS t a b up).2 ≤ 4294967296 := by
  have K := cor_ok hC hR h
  have c := hR.1
  cases up with
  | true => exact ⟨⟨(slp c K.d2).1.lo, (slp c K.d2).1.hi⟩, (slp c K.d3).1.lo, (slp c K.d3).1.hi⟩
  | false => exact ⟨⟨(slp c K.d1).1.lo, (slp c K.d1).1.hi⟩, (slp c K.d4).1.lo, (slp c K.d4).1.hi⟩
def upOf (w : Int × Int × Int × Int) : Bool := decide (w.2.2.1 < w.2.2.2)
def slW (t : TR) (w : Int × Int × Int × Int) : Int × Int := slS t w.1 w.2.1 (upOf w)
def HtW (t : TR) (w : Int × Int × Int × Int) : Int := hg t (nOf t w.1 w.2.1) + mulR (slW t w).1 w.2.2.1 + mulR (slW t w).2 w.2.2.2
theorem WOk.inc {t : TR} {w : Int × Int × Int × Int} (h : WOk t w) : InC t w.1 w.2.1 := ⟨⟨h.c0, h.c1⟩, h.r0, h.r1⟩
theorem height_p {t : TR} (hC : CntP t) (hR : RngP t) (x y : Int) (o : Bool) : F21_0 ((x, y), (o, fldT t)) = some (HtW t (W t x y), (o, fldO t)) := by
  have hw := W_ok hC hR x y
  have s := slS_in hC hR hw.inc (upOf (W t x y))
  have h0 := hg_ok hR (k := nOf t (W t x y).1 (W t x y).2.1) (by have := (cor_ok hC hR hw.inc).len; omega)
  have m1 := slpmul s.1 hw.x
  have m2 := slpmul s.2 hw.y
  have hI := hw.inc
  have wx := hw.x
  have wy := hw.y
  unfold F21_0
  simp only []
  rw [where_p hC hR]
  simp only [Option.bind_some, fldO]
  unfold HtW slW
  unfold upOf at *
  generalize W t x y = w at *
  simp only [slopes_p hC hR hI, base_p hC hR hI, Option.bind_some]
  generalize slS t w.1 w.2.1 (decide (w.2.2.1 < w.2.2.2)) = sl at *
  rw [(mulI s.1 wx o).1]
  simp only [Option.bind_some]
  rw [addI (i64_of (by omega)) (i64_of (by omega)) (by omega)]
  simp only [Option.bind_some]
  rw [(mulI s.2 wy o).1]
  simp only [Option.bind_some]
  rw [addI (i64_of (by omega)) (i64_of (by omega)) (by omega)]
  rfl
theorem height_r {t : TR} (hC : CntP t) (hR : RngP t) (x y : Int) (o : Bool) : F22_0 ((t, (x, y)), o) = some (HtW t (W t x y), o) := by
  have hw := W_ok hC hR x y
  have s := slS_in hC hR hw.inc (upOf (W t x y))
  have h0 := hg_ok hR (k := nOf t (W t x y).1 (W t x y).2.1) (by have := (cor_ok hC hR hw.inc).len; omega)
  have m1 := slpmul s.1 hw.x
  have m2 := slpmul s.2 hw.y
  have hI := hw.inc
  have wx := hw.x
  have wy := hw.y
  unfold F22_0
  simp only []
  rw [where_r hC hR]
  simp only [Option.bind_some]
  unfold HtW slW
  unfold upOf at *
  generalize W t x y = w at *
  simp only [slopes_r hC hR hI, base_r hC hR hI, Option.bind_some]
  generalize slS t w.1 w.2.1 (decide (w.2.2.1 < w.2.2.2)) = sl at *
  rw [(mulI s.1 wx o).2]
  simp only [Option.bind_some]
  rw [raddI (i64_of (by omega)) (i64_of (by omega)) (by omega)]
  simp only [Option.bind_some]
  rw [(mulI s.2 wy o).2]
  simp only [Option.bind_some]
  rw [raddI (i64_of (by omega)) (i64_of (by omega)) (by omega)]
  rfl
/-! ### Normals -/
theorem slp2 {D C : Int} (hC : 4294967296 ≤ C ∧ C ≤ 9223372036854775807) (h : -4294967296 ≤ D ∧ D ≤ 4294967296) : divO D C = false ∧ divS D C = rhe (D * 4294967296) C := by
  have e : divR D C = rhe (D * 4294967296) C := by unfold divR; rw [if_pos (by omega)]
  have a := rhe_le (n := D * 4294967296) (d := C) (M := 4294967296) (by omega) (by omega)
  have b := rhe_ge (n := D * 4294967296) (d := C) (M := -4294967296) (by omega) (by omega)
  refine ⟨?_, ?_⟩
  · unfold divO
    rw [decide_eq_false (by omega), e, ovf_in ⟨by omega, by omega⟩]; rfl
  · unfold divS; rw [if_neg (by omega), e, sat_in ⟨by omega, by omega⟩]
theorem unit_g {a b : Int} (ha : -4294967296 ≤ a ∧ a ≤ 4294967296) (hb : -4294967296 ≤ b ∧ b ≤ 4294967296) : ∃ u : Int × Int × Int, 2147483648 ≤ u.2.2 ∧ ∀ o, F59_0 ((a, (b, 4294967296)), o) = some ((u, true), o) ∧ F90_0 ((a, (b, 4294967296)), o) = some ((u, true), o) := by
  have sq : ∀ {x : Int}, -4294967296 ≤ x ∧ x ≤ 4294967296 → 0 ≤ x * x ∧ x * x ≤ 18446744073709551616 := by
    intro x h
    have e := Int.natAbs_mul x x
    have h3 := Nat.mul_le_mul (show x.natAbs ≤ 4294967296 by omega) (show x.natAbs ≤ 4294967296 by omega)
    rw [← e] at h3
    have : 0 ≤ x * x := by
      rcases Int.lt_or_le x 0 with h | h
      · exact Int.le_of_lt (Int.mul_pos_of_neg_of_neg h h)
      · exact Int.mul_nonneg h h
    generalize x * x = p at *
    omega
  have qa := sq ha
  have qb := sq hb
  have key : ∃ r : Int, (4294967296 ≤ r ∧ r ≤ 8589934592) ∧ ∀ o, F102_0 ((a, (b, 4294967296)), o) = some (r, o) ∧ F108_0 ((a, (b, 4294967296)), o) = some (r, o) := by
    have one : ∀ o, ∃ r : Int, IsRt (a * a + b * b + 4294967296 * 4294967296) r ∧ (4294967296 ≤ r ∧ r ≤ 8589934592) ∧ F102_0 ((a, (b, 4294967296)), o) = some (r, o) ∧ F108_0 ((a, (b, 4294967296)), o) = some (r, o) := by
      intro o
      obtain ⟨res, e1, e2, h⟩ := len3_same (x := a) (y := b) (z := 4294967296) (i64_of (by omega)) (i64_of (by omega)) (i64_of (by omega)) o
      rcases h with ⟨h1, r, hr, h2⟩ | ⟨h1, h2⟩
      · have hr' := hr
        obtain ⟨r0, r1, r2⟩ := hr'
        have b1 : r ≤ 8589934592 := by
          rcases Int.lt_or_le 8589934592 r with c | c
          · have := Int.mul_le_mul (Int.le_of_lt c) (Int.le_of_lt c) (by decide) r0
            omega
          · exact c
        have b2 : 4294967296 ≤ r := by
          rcases Int.lt_or_le r 4294967296 with c | c
          · have := Int.mul_le_mul (show r + 1 ≤ 4294967296 by omega) (show r + 1 ≤ 4294967296 by omega) (by omega) (by decide)
            omega
          · exact c
        rw [if_neg (by omega)] at h2
        rw [h2] at e1 e2
        exact ⟨r, hr, ⟨b2, b1⟩, e1, e2⟩
      · omega
    obtain ⟨r, h1, h2, _⟩ := one false
    refine ⟨r, h2, fun o => ?_⟩
    obtain ⟨q, g1, _, g3⟩ := one o
    rw [rt_uniq h1 g1]; exact g3
  obtain ⟨r, hr, hk⟩ := key
  refine ⟨(divS a r, divS b r, divS 4294967296 r), ?_, fun o => ⟨?_, ?_⟩⟩
  · show 2147483648 ≤ divS 4294967296 r
    rw [(slp2 (D := 4294967296) (C := r) (by omega) (by decide)).2]
    exact rhe_ge (by omega) (by omega)
  · unfold F59_0 F89_0
    simp only [(hk o).1, Option.bind_some]
    rw [show (r == 0) = false from beq_eq_false_iff_ne.2 (by omega), cond_false, div_p (i64_of (by omega)) (i64_of (by omega)), (slp2 (by omega) ha).1, Bool.or_false]
    simp only [Option.bind_some]
    rw [div_p (i64_of (by omega)) (i64_of (by omega)), (slp2 (by omega) hb).1, Bool.or_false]
    simp only [Option.bind_some]
    rw [div_p (i64_of (by omega)) (i64_of (by omega)), (slp2 (by omega) (by decide)).1, Bool.or_false]
    rfl
  · unfold F90_0 F103_0
    simp only [(hk o).2, Option.bind_some]
    rw [show (r == 0) = false from beq_eq_false_iff_ne.2 (by omega), cond_false, rdiv_eq (i64_of (by omega)) (i64_of (by omega)), (slp2 (by omega) ha).1, Bool.or_false]
    simp only [Option.bind_some]
    rw [rdiv_eq (i64_of (by omega)) (i64_of (by omega)), (slp2 (by omega) hb).1, Bool.or_false]
    simp only [Option.bind_some]
    rw [rdiv_eq (i64_of (by omega)) (i64_of (by omega)), (slp2 (by omega) (by decide)).1, Bool.or_false]
    rfl
theorem normal_g {t : TR} (hC : CntP t) (hR : RngP t) (x y : Int) : ∃ u : Int × Int × Int, 2147483648 ≤ u.2.2 ∧ ∀ o, F23_0 ((x, y), (o, fldT t)) = some (u, (o, fldO t)) ∧ F24_0 ((t, (x, y)), o) = some (u, o) := by
  have hw := W_ok hC hR x y
  have s := slS_in hC hR hw.inc (upOf (W t x y))
  have hI := hw.inc
  have e1 := where_p hC hR x y
  have e2 := where_r hC hR x y
  unfold upOf at s
  generalize W t x y = w at *
  obtain ⟨u, hu, hk⟩ := unit_g (a := -(slS t w.1 w.2.1 (decide (w.2.2.1 < w.2.2.2))).1) (b := -(slS t w.1 w.2.1 (decide (w.2.2.1 < w.2.2.2))).2) (by omega) (by omega)
  refine ⟨u, hu, fun o => ⟨?_, ?_⟩⟩
  · unfold F23_0
    simp only []
    rw [e1]
    simp only [Option.bind_some, fldO, slopes_p hC hR hI]
    generalize slS t w.1 w.2.1 (decide (w.2.2.1 < w.2.2.2)) = sl at *
    rw [f64 (show -9223372036854775808 ≤ 0 - sl.1 ∧ 0 - sl.1 ≤ 9223372036854775807 by omega), f64 (show -9223372036854775808 ≤ 0 - sl.2 ∧ 0 - sl.2 ≤ 9223372036854775807 by omega), show 0 - sl.1 = -sl.1 by omega, show 0 - sl.2 = -sl.2 by omega, (hk o).1]
    rfl
  · unfold F24_0 F60_0
    simp only []
    rw [e2]
    simp only [Option.bind_some, slopes_r hC hR hI]
    generalize slS t w.1 w.2.1 (decide (w.2.2.1 < w.2.2.2)) = sl at *
    rw [rnegI (by omega)]
    simp only [Option.bind_some]
    rw [rnegI (by omega)]
    simp only [Option.bind_some]
    rw [(hk o).2]
    rfl
theorem kind_g {t : TR} (hC : CntP t) (hR : RngP t) (x y : Int) : ∃ k : Int, F25_0 ((x, y), fldT t) = some (k, fldO t) ∧ F26_0 (t, (x, y)) = some k := by
  have hw := W_ok hC hR x y
  have e1 := where_p hC hR x y
  have e2 := where_r hC hR x y
  obtain ⟨⟨c0, c1⟩, r0, r1⟩ := hw.inc
  generalize W t x y = w at *
  obtain ⟨c, r, ec, er, hc, hr, hl, hg'⟩ := hC.nat
  obtain ⟨a, ea⟩ := Int.eq_ofNat_of_zero_le c0
  obtain ⟨b, eb⟩ := Int.eq_ofNat_of_zero_le r0
  have l1 : (b + 1) * c ≤ r * c := Nat.mul_le_mul_right _ (by omega)
  rw [Nat.add_mul, Nat.one_mul] at l1
  rw [Nat.mul_comm] at hg'
  have l2 : r * c ≤ 64 * 64 := Nat.mul_le_mul hr.2 hc.2
  have en : IntKind.wrap .i64 (IntKind.wrap .i64 (w.2.1 * t.2.2.1) + w.1) = ((b * c + a : Nat) : Int) := by
    rw [ea, eb, ec, ← Int.natCast_mul]
    generalize b * c = m at *
    rw [f64 (show -9223372036854775808 ≤ (m : Int) ∧ (m : Int) ≤ 9223372036854775807 by omega), f64 (by omega)]; rfl
  have hn : b * c + a < t.2.2.2.2.2.2.2.1.length := by omega
  refine ⟨t.2.2.2.2.2.2.2.1.getD (b * c + a) 0, ?_, ?_⟩
  · unfold F25_0
    rw [e1]
    simp only [Option.bind_some, fldO, en, fidx hn, fgD hn]
  · unfold F26_0
    rw [e2]
    simp only [Option.bind_some, en, fdD hn]
theorem law4_0 (v) (h : Dom4_0 v) : F4_0 v = some true := by
  obtain ⟨t, px, py⟩ := v
  unfold F4_0
  obtain ⟨b', hb1, hb2⟩ := few_eq t
  simp only [hb1, Option.bind_some]
  cases b' with
  | false => simp only [Bool.not_false, cond_true, awake12, Option.bind_some]
  | true =>
    have hf := hb2.1 rfl
    rw [Bool.not_true, cond_false, new_eq t hf, right_eq t hf]
    simp only [Option.bind_some]
    by_cases hC : CntP t
    case neg => simp only [if_neg hC, awake12]; rfl
    by_cases hR : RngP t
    case neg => simp only [if_pos hC, if_neg hR, awake12]; rfl
    simp only [if_pos hC, if_pos hR]
    obtain ⟨u, _, hu⟩ := normal_g hC hR px py
    obtain ⟨k, hk1, hk2⟩ := kind_g hC hR px py
    have e : ∀ x : Int, (x == x) = true := fun x => by simp
    have e' : ((0 : Int) != 0) = false := rfl
    rw [height_p hC hR, height_r hC hR]
    have n1 : F23_0 ((px, py), (false, ((fldO t).1, ((fldO t).2.2, (fldO t).2.1)))) = some (u, (false, fldO t)) := (hu false).1
    have n2 : F25_0 ((px, py), ((fldO t).1, ((fldO t).2.2, (fldO t).2.1))) = some (k, fldO t) := hk1
    simp only [Option.bind_some, e, e', cond_true, cond_false, n1, (hu false).2, Bool.and_self, n2, hk2, awake12]
    rfl
end Go.Proofs.Ytneiaaalbpjgiaa.Ev
