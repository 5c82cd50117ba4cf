/- The ground: heights, normals, kinds. -/
import Derived.Test.YtneiaaalbpjgiaaGreatMField4
set_option linter.unusedVariables false
set_option linter.unusedSimpArgs false
namespace Go.Proofs.YtneiaaalbpjgiaaGreat.Ev
open Go

theorem add_p {a b : Int} (ha : I64 a) (hb : I64 b) (o : Bool) : F47_0 ((a, b), o) = some (sat (a + b), o || ovf (a + b)) := by
  have ha' := ha; have hb' := hb
  unfold I64 at ha' hb'
  unfold F47_0
  simp only [ofw_eq ha, ofw_eq hb, Option.bind_some]
  rw [addw_eq (wd_ok (by unfold I128; omega)) (wd_ok (by unfold I128; omega)) (by rw [wv_wd, wv_wd]; unfold I128; omega), wv_wd, wv_wd]
  simp only [Option.bind_some]
  rw [fit_p (by unfold I128; omega)]; rfl
theorem addI {a b : Int} (ha : I64 a) (hb : I64 b) (h : -9223372036854775808 ≤ a + b ∧ a + b ≤ 9223372036854775807) (o : Bool) : F47_0 ((a, b), o) = some (a + b, o) := by
  rw [add_p ha hb, sat_in h, ovf_in h, Bool.or_false]
theorem subI {a b : Int} (ha : I64 a) (hb : I64 b) (h : -9223372036854775808 ≤ a - b ∧ a - b ≤ 9223372036854775807) (o : Bool) : F45_0 ((a, b), o) = some (a - b, o) := by
  rw [sub_p ha hb, sat_in h, ovf_in h, Bool.or_false]
theorem raddI {a b : Int} (ha : I64 a) (hb : I64 b) (h : -9223372036854775808 ≤ a + b ∧ a + b ≤ 9223372036854775807) (o : Bool) : F56_0 ((a, b), o) = some (a + b, o) := by
  unfold I64 at ha hb
  unfold F56_0
  simp only [rbound_eq, Option.bind_some]
  by_cases h1 : b > 0
  · rw [decide_eq_true h1, cond_true, f64 (by omega), decide_eq_false (by omega), cond_false, decide_eq_false (by omega), cond_false, f64 h]
  · rw [decide_eq_false h1, cond_false]
    by_cases h2 : b < 0
    · rw [decide_eq_true h2, cond_true, f64 (by omega), decide_eq_false (by omega), cond_false, f64 h]
    · rw [decide_eq_false h2, cond_false, f64 h]
theorem rnegI {a : Int} (h : -9223372036854775807 ≤ a ∧ a ≤ 9223372036854775807) (o : Bool) : F59_0 (a, o) = some (-a, o) := by
  unfold F59_0 F54_0
  simp only [rbound_eq, Option.bind_some]
  by_cases h1 : a < 0
  · rw [decide_eq_true h1, cond_true, f64 (by omega), decide_eq_false (by omega), cond_false, decide_eq_false (by omega), cond_false, f64 (by omega), show (0 : Int) - a = -a by omega]
    rfl
  · rw [decide_eq_false h1, cond_false]
    by_cases h2 : a > 0
    · rw [decide_eq_true h2, cond_true, f64 (by omega), decide_eq_false (by omega), cond_false, f64 (by omega), show (0 : Int) - a = -a by omega]
      rfl
    · rw [decide_eq_false h2, cond_false, f64 (by omega), show (0 : Int) - a = -a by omega]
      rfl
/-- A slope times a way. -/
theorem slpmul {a d : Int} (ha : -4294967296 ≤ a ∧ a ≤ 4294967296) (hd : -422212465065984 ≤ d ∧ d ≤ 422212465065984) :
    (-422212465065984 ≤ mulR a d ∧ mulR a d ≤ 422212465065984) ∧ -4294967296 ≤ 2 * (mulR a d * 4294967296 - a * d) ∧ 2 * (mulR a d * 4294967296 - a * d) ≤ 4294967296 := by
  have h := Int.natAbs_mul a d
  have h3 := Nat.mul_le_mul (show a.natAbs ≤ 4294967296 by omega) (show d.natAbs ≤ 422212465065984 by omega)
  rw [← h] at h3
  unfold mulR
  have n := rhe_near (n := a * d) (d := 4294967296) (by decide)
  generalize a * d = p at *
  have a1 := rhe_le (n := p) (d := 4294967296) (M := 422212465065984) (by decide) (by omega)
  have a2 := rhe_ge (n := p) (d := 4294967296) (M := -422212465065984) (by decide) (by omega)
  exact ⟨⟨a2, a1⟩, n⟩
theorem mulI {a d : Int} (ha : -4294967296 ≤ a ∧ a ≤ 4294967296) (hd : -422212465065984 ≤ d ∧ d ≤ 422212465065984) (o : Bool) :
    F46_0 ((a, d), o) = some (mulR a d, o) ∧ F55_0 ((a, d), o) = some (mulR a d, o) := by
  have h := (slpmul ha hd).1
  have e : mulS a d = mulR a d := sat_in (i64_of (by omega))
  rw [mul_p (i64_of (by omega)) (i64_of (by omega)), rmul_eq (i64_of (by omega)) (i64_of (by omega)), e, ovf_in (i64_of (by omega)), Bool.or_false]
  exact ⟨rfl, rfl⟩
theorem slS_in {t : TR} (hC : CntP t) (hR : RngP t) {a b : Int} (h : InC t a b) (up : Bool) : (-4294967296 ≤ (slS t a b up).1 ∧ (slS t a b up).1 ≤ 4294967296) ∧ -4294967296 ≤ (slS t a b up).2 ∧ (slS t a b up).2 ≤ 4294967296 := by
  have K := cor_ok hC hR h
  have c := hR.1
  cases up with
  | true => exact ⟨⟨(slp c K.d2).1.lo, (slp c K.d2).1.hi⟩, (slp c K.d3).1.lo, (slp c K.d3).1.hi⟩
  | false => exact ⟨⟨(slp c K.d1).1.lo, (slp c K.d1).1.hi⟩, (slp c K.d4).1.lo, (slp c K.d4).1.hi⟩
def upOf (w : Int × Int × Int × Int) : Bool := decide (w.2.2.1 < w.2.2.2)
def slW (t : TR) (w : Int × Int × Int × Int) : Int × Int := slS t w.1 w.2.1 (upOf w)
def HtW (t : TR) (w : Int × Int × Int × Int) : Int := hg t (nOf t w.1 w.2.1) + mulR (slW t w).1 w.2.2.1 + mulR (slW t w).2 w.2.2.2
theorem WOk.inc {t : TR} {w : Int × Int × Int × Int} (h : WOk t w) : InC t w.1 w.2.1 := ⟨⟨h.c0, h.c1⟩, h.r0, h.r1⟩
/-! ### Normals -/
theorem slp2 {D C : Int} (hC : 4294967296 ≤ C ∧ C ≤ 9223372036854775807) (h : -4294967296 ≤ D ∧ D ≤ 4294967296) : divO D C = false ∧ divS D C = rhe (D * 4294967296) C := by
  have e : divR D C = rhe (D * 4294967296) C := by unfold divR; rw [if_pos (by omega)]
  have a := rhe_le (n := D * 4294967296) (d := C) (M := 4294967296) (by omega) (by omega)
  have b := rhe_ge (n := D * 4294967296) (d := C) (M := -4294967296) (by omega) (by omega)
  refine ⟨?_, ?_⟩
  · unfold divO
    rw [decide_eq_false (by omega), e, ovf_in ⟨by omega, by omega⟩]; rfl
  · unfold divS; rw [if_neg (by omega), e, sat_in ⟨by omega, by omega⟩]
theorem unit_g {a b : Int} (ha : -4294967296 ≤ a ∧ a ≤ 4294967296) (hb : -4294967296 ≤ b ∧ b ≤ 4294967296) : ∃ u : Int × Int × Int, 2147483648 ≤ u.2.2 ∧ ∀ o, F51_0 ((a, (b, 4294967296)), o) = some ((u, true), o) ∧ F62_0 ((a, (b, 4294967296)), o) = some ((u, true), o) := by
  have sq : ∀ {x : Int}, -4294967296 ≤ x ∧ x ≤ 4294967296 → 0 ≤ x * x ∧ x * x ≤ 18446744073709551616 := by
    intro x h
    have e := Int.natAbs_mul x x
    have h3 := Nat.mul_le_mul (show x.natAbs ≤ 4294967296 by omega) (show x.natAbs ≤ 4294967296 by omega)
    rw [← e] at h3
    have : 0 ≤ x * x := by
      rcases Int.lt_or_le x 0 with h | h
      · exact Int.le_of_lt (Int.mul_pos_of_neg_of_neg h h)
      · exact Int.mul_nonneg h h
    generalize x * x = p at *
    omega
  have qa := sq ha
  have qb := sq hb
  have key : ∃ r : Int, (4294967296 ≤ r ∧ r ≤ 8589934592) ∧ ∀ o, F90_0 ((a, (b, 4294967296)), o) = some (r, o) ∧ F92_0 ((a, (b, 4294967296)), o) = some (r, o) := by
    have one : ∀ o, ∃ r : Int, IsRt (a * a + b * b + 4294967296 * 4294967296) r ∧ (4294967296 ≤ r ∧ r ≤ 8589934592) ∧ F90_0 ((a, (b, 4294967296)), o) = some (r, o) ∧ F92_0 ((a, (b, 4294967296)), o) = some (r, o) := by
      intro o
      obtain ⟨res, e1, e2, h⟩ := len3_same (x := a) (y := b) (z := 4294967296) (i64_of (by omega)) (i64_of (by omega)) (i64_of (by omega)) o
      rcases h with ⟨h1, r, hr, h2⟩ | ⟨h1, h2⟩
      · have hr' := hr
        obtain ⟨r0, r1, r2⟩ := hr'
        have b1 : r ≤ 8589934592 := by
          rcases Int.lt_or_le 8589934592 r with c | c
          · have := Int.mul_le_mul (Int.le_of_lt c) (Int.le_of_lt c) (by decide) r0
            omega
          · exact c
        have b2 : 4294967296 ≤ r := by
          rcases Int.lt_or_le r 4294967296 with c | c
          · have := Int.mul_le_mul (show r + 1 ≤ 4294967296 by omega) (show r + 1 ≤ 4294967296 by omega) (by omega) (by decide)
            omega
          · exact c
        rw [if_neg (by omega)] at h2
        rw [h2] at e1 e2
        exact ⟨r, hr, ⟨b2, b1⟩, e1, e2⟩
      · omega
    obtain ⟨r, h1, h2, _⟩ := one false
    refine ⟨r, h2, fun o => ?_⟩
    obtain ⟨q, g1, _, g3⟩ := one o
    rw [rt_uniq h1 g1]; exact g3
  obtain ⟨r, hr, hk⟩ := key
  refine ⟨(divS a r, divS b r, divS 4294967296 r), ?_, fun o => ⟨?_, ?_⟩⟩
  · show 2147483648 ≤ divS 4294967296 r
    rw [(slp2 (D := 4294967296) (C := r) (by omega) (by decide)).2]
    exact rhe_ge (by omega) (by omega)
  · unfold F51_0 F76_0
    simp only [(hk o).1, Option.bind_some]
    rw [show (r == 0) = false from beq_eq_false_iff_ne.2 (by omega), cond_false, div_p (i64_of (by omega)) (i64_of (by omega)), (slp2 (by omega) ha).1, Bool.or_false]
    simp only [Option.bind_some]
    rw [div_p (i64_of (by omega)) (i64_of (by omega)), (slp2 (by omega) hb).1, Bool.or_false]
    simp only [Option.bind_some]
    rw [div_p (i64_of (by omega)) (i64_of (by omega)), (slp2 (by omega) (by decide)).1, Bool.or_false]
    rfl
  · unfold F62_0 F84_0
    simp only [(hk o).2, Option.bind_some]
    rw [show (r == 0) = false from beq_eq_false_iff_ne.2 (by omega), cond_false, rdiv_eq (i64_of (by omega)) (i64_of (by omega)), (slp2 (by omega) ha).1, Bool.or_false]
    simp only [Option.bind_some]
    rw [rdiv_eq (i64_of (by omega)) (i64_of (by omega)), (slp2 (by omega) hb).1, Bool.or_false]
    simp only [Option.bind_some]
    rw [rdiv_eq (i64_of (by omega)) (i64_of (by omega)), (slp2 (by omega) (by decide)).1, Bool.or_false]
    rfl
end Go.Proofs.YtneiaaalbpjgiaaGreat.Ev
