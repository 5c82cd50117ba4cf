/- The ground: its corners, and how it rises in a cell. -/
import Derived.Test.YtneiaaalbpjgiaaGreatMField5
set_option linter.unusedVariables false
set_option linter.unusedSimpArgs false
namespace Go.Proofs.YtneiaaalbpjgiaaGreat.Ev
open Go

/-- Not by 'rfl': the kernel must not compare what is bound. -/
theorem bnd' {α β : Type} (a : α) (f : α → Option β) : (some a).bind f = f a := (congrArg (fun x => Option.bind x f) (Eq.refl (some a))).trans (Eq.refl (f a))
def ab (x : Int) : Int := if x < 0 then -x else x
theorem mb {a : Int} (ha : -4294967296 ≤ a ∧ a ≤ 4294967296) (x : Int) : -(4294967296 * ab x) ≤ a * x ∧ a * x ≤ 4294967296 * ab x := by
  have h := Int.natAbs_mul a x
  have h3 := Nat.mul_le_mul_right x.natAbs (show a.natAbs ≤ 4294967296 by omega)
  rw [← h] at h3
  have e : (x.natAbs : Int) = ab x := by unfold ab; split <;> omega
  generalize a * x = p at *
  omega
theorem flat {a b : Int} (ha : -4294967296 ≤ a ∧ a ≤ 4294967296) (hb : -4294967296 ≤ b ∧ b ≤ 4294967296) (x y x' y' : Int) :
    -(4294967296 * (ab (x - x') + ab (y - y'))) ≤ a * x + b * y - (a * x' + b * y') ∧ a * x + b * y - (a * x' + b * y') ≤ 4294967296 * (ab (x - x') + ab (y - y')) := by
  have m1 := mb ha (x - x')
  have m2 := mb hb (y - y')
  rw [Int.mul_sub] at m1 m2
  omega
theorem tween {x y x' y' T : Int} (h : y ≤ x) (h' : x' < y') (hx : -T ≤ x ∧ x ≤ T) (hy : -T ≤ y ∧ y ≤ T) (hx' : -T ≤ x' ∧ x' ≤ T) (hy' : -T ≤ y' ∧ y' ≤ T) :
    ∃ t, ab (x - t) + ab (t - x') = ab (x - x') ∧ ab (y - t) + ab (t - y') = ab (y - y') ∧ -T ≤ t ∧ t ≤ T := by
  have one : ∀ {p q t : Int}, (p ≤ t ∧ t ≤ q) ∨ (q ≤ t ∧ t ≤ p) → ab (p - t) + ab (t - q) = ab (p - q) := by
    intro p q t h
    unfold ab
    rcases h with h | h <;> (split <;> split <;> split <;> omega)
  by_cases c1 : x ≤ x'
  · by_cases c2 : x ≤ y'
    · exact ⟨x, one (by omega), one (by omega), hx⟩
    · exact ⟨y', one (by omega), one (by omega), hy'⟩
  · by_cases c2 : y ≤ y'
    · by_cases c3 : x' ≤ y
      · exact ⟨y, one (by omega), one (by omega), hy⟩
      · exact ⟨x', one (by omega), one (by omega), hx'⟩
    · exact ⟨y', one (by omega), one (by omega), hy'⟩
theorem cross {a b a' b' x y x' y' T : Int} (ha : -4294967296 ≤ a ∧ a ≤ 4294967296) (hb : -4294967296 ≤ b ∧ b ≤ 4294967296) (ha' : -4294967296 ≤ a' ∧ a' ≤ 4294967296) (hb' : -4294967296 ≤ b' ∧ b' ≤ 4294967296)
    (hs : -2 ≤ a + b - a' - b' ∧ a + b - a' - b' ≤ 2) (h : y ≤ x) (h' : x' < y') (hx : -T ≤ x ∧ x ≤ T) (hy : -T ≤ y ∧ y ≤ T) (hx' : -T ≤ x' ∧ x' ≤ T) (hy' : -T ≤ y' ∧ y' ≤ T) :
    -(4294967296 * (ab (x - x') + ab (y - y')) + 2 * T) ≤ a * x + b * y - (a' * x' + b' * y') ∧ a * x + b * y - (a' * x' + b' * y') ≤ 4294967296 * (ab (x - x') + ab (y - y')) + 2 * T := by
  obtain ⟨t, t1, t2, t3⟩ := tween h h' hx hy hx' hy'
  have m1 := mb ha (x - t)
  have m2 := mb hb (y - t)
  have m3 := mb ha' (t - x')
  have m4 := mb hb' (t - y')
  have e : (a + b - a' - b') * t = a * t + b * t - a' * t - b' * t := by rw [Int.sub_mul, Int.sub_mul, Int.add_mul]
  have q : -(2 * T) ≤ (a + b - a' - b') * t ∧ (a + b - a' - b') * t ≤ 2 * T := by
    generalize a + b - a' - b' = s at *
    rcases (show s = -2 ∨ s = -1 ∨ s = 0 ∨ s = 1 ∨ s = 2 by omega) with rfl | rfl | rfl | rfl | rfl <;> omega
  rw [Int.mul_sub] at m1 m2 m3 m4
  rw [← t1, ← t2]
  generalize ab (x - t) = u1 at *
  generalize ab (y - t) = u2 at *
  generalize ab (t - x') = u3 at *
  generalize ab (t - y') = u4 at *
  omega
theorem sums2 {D1 D4 D2 D3 C a b a' b' : Int} (hC : 0 < C) (h1 : Slp D1 C a) (h4 : Slp D4 C b) (h2 : Slp D2 C a') (h3 : Slp D3 C b') (e : D1 + D4 = D2 + D3) : -2 ≤ a + b - a' - b' ∧ a + b - a' - b' ≤ 2 := by
  have := h1.nlo; have := h1.nhi; have := h2.nlo; have := h2.nhi; have := h3.nlo; have := h3.nhi; have := h4.nlo; have := h4.nhi
  have ex : (a + b - a' - b') * C = a * C + b * C - a' * C - b' * C := by rw [Int.sub_mul, Int.sub_mul, Int.add_mul]
  have l1 : (a + b - a' - b') * C ≤ 2 * C := by omega
  have l2 : (-2) * C ≤ (a + b - a' - b') * C := by omega
  exact ⟨Int.le_of_mul_le_mul_right l2 hC, Int.le_of_mul_le_mul_right l1 hC⟩
theorem core {t : TR} (hC : CntP t) (hR : RngP t) {w w' : Int × Int × Int × Int} (hw : WOk t w) (hw' : WOk t w') (e1 : w'.1 = w.1) (e2 : w'.2.1 = w.2.1) :
    -(4294967296 * (ab (w.2.2.1 - w'.2.2.1) + ab (w.2.2.2 - w'.2.2.2)) + 844424930131968) ≤ (slW t w).1 * w.2.2.1 + (slW t w).2 * w.2.2.2 - ((slW t w').1 * w'.2.2.1 + (slW t w').2 * w'.2.2.2) ∧
    (slW t w).1 * w.2.2.1 + (slW t w).2 * w.2.2.2 - ((slW t w').1 * w'.2.2.1 + (slW t w').2 * w'.2.2.2) ≤ 4294967296 * (ab (w.2.2.1 - w'.2.2.1) + ab (w.2.2.2 - w'.2.2.2)) + 844424930131968 := by
  have K := cor_ok hC hR hw.inc
  have c := hR.1
  have L1 := (slp c K.d1).1
  have L4 := (slp c K.d4).1
  have U2 := (slp c K.d2).1
  have U3 := (slp c K.d3).1
  have hs := sums2 (by omega) L1 L4 U2 U3 (by omega)
  have wx := hw.x
  have wy := hw.y
  have wx' := hw'.x
  have wy' := hw'.y
  have b1 := And.intro L1.lo L1.hi
  have b4 := And.intro L4.lo L4.hi
  have b2 := And.intro U2.lo U2.hi
  have b3 := And.intro U3.lo U3.hi
  have sl : ∀ v : Int × Int × Int × Int, v.1 = w.1 → v.2.1 = w.2.1 → slW t v = if v.2.2.1 < v.2.2.2 then (divS (hg t (nOf t w.1 w.2.1 + t.2.2.1.toNat + 2) - hg t (nOf t w.1 w.2.1 + t.2.2.1.toNat + 1)) t.2.1, divS (hg t (nOf t w.1 w.2.1 + t.2.2.1.toNat + 1) - hg t (nOf t w.1 w.2.1)) t.2.1) else (divS (hg t (nOf t w.1 w.2.1 + 1) - hg t (nOf t w.1 w.2.1)) t.2.1, divS (hg t (nOf t w.1 w.2.1 + t.2.2.1.toNat + 2) - hg t (nOf t w.1 w.2.1 + 1)) t.2.1) := by
    intro v h1 h2
    unfold slW slS upOf
    rw [h1, h2]
    by_cases k : v.2.2.1 < v.2.2.2
    · rw [decide_eq_true k, if_pos k]; rfl
    · rw [decide_eq_false k, if_neg k]; rfl
  rw [sl w rfl rfl, sl w' e1 e2]
  generalize divS (hg t (nOf t w.1 w.2.1 + t.2.2.1.toNat + 2) - hg t (nOf t w.1 w.2.1 + t.2.2.1.toNat + 1)) t.2.1 = a2 at *
  generalize divS (hg t (nOf t w.1 w.2.1 + t.2.2.1.toNat + 1) - hg t (nOf t w.1 w.2.1)) t.2.1 = a3 at *
  generalize divS (hg t (nOf t w.1 w.2.1 + 1) - hg t (nOf t w.1 w.2.1)) t.2.1 = a1 at *
  generalize divS (hg t (nOf t w.1 w.2.1 + t.2.2.1.toNat + 2) - hg t (nOf t w.1 w.2.1 + 1)) t.2.1 = a4 at *
  have sy : ∀ p q : Int, ab (p - q) = ab (q - p) := by intro p q; unfold ab; split <;> split <;> omega
  by_cases k : w.2.2.1 < w.2.2.2
  · by_cases k' : w'.2.2.1 < w'.2.2.2
    · rw [if_pos k, if_pos k']
      have := flat b2 b3 w.2.2.1 w.2.2.2 w'.2.2.1 w'.2.2.2
      simp only []; omega
    · rw [if_pos k, if_neg k']
      have := cross (T := 422212465065984) b1 b4 b2 b3 hs (show w'.2.2.2 ≤ w'.2.2.1 by omega) k wx' wy' wx wy
      rw [sy w'.2.2.1, sy w'.2.2.2] at this
      simp only []; omega
  · by_cases k' : w'.2.2.1 < w'.2.2.2
    · rw [if_neg k, if_pos k']
      have := cross (T := 422212465065984) b1 b4 b2 b3 hs (show w.2.2.2 ≤ w.2.2.1 by omega) k' wx wy wx' wy'
      simp only []; omega
    · rw [if_neg k, if_neg k']
      have := flat b1 b4 w.2.2.1 w.2.2.2 w'.2.2.1 w'.2.2.2
      simp only []; omega
theorem HtW_in {t : TR} (hC : CntP t) (hR : RngP t) {w : Int × Int × Int × Int} (hw : WOk t w) : -846623953387520 ≤ HtW t w ∧ HtW t w ≤ 846623953387520 := by
  have s := slS_in hC hR hw.inc (upOf w)
  have h0 := hg_ok hR (k := nOf t w.1 w.2.1) (by have := (cor_ok hC hR hw.inc).len; omega)
  have m1 := slpmul s.1 hw.x
  have m2 := slpmul s.2 hw.y
  unfold HtW slW; omega
theorem rises {t : TR} (hC : CntP t) (hR : RngP t) {w w' : Int × Int × Int × Int} (hw : WOk t w) (hw' : WOk t w') (e1 : w'.1 = w.1) (e2 : w'.2.1 = w.2.1) : ab (HtW t w - HtW t w') ≤ ab (w.2.2.1 - w'.2.2.1) + ab (w.2.2.2 - w'.2.2.2) + 196612 := by
  have s := slS_in hC hR hw.inc (upOf w)
  have s' := slS_in hC hR hw'.inc (upOf w')
  have m1 := (slpmul s.1 hw.x).2
  have m2 := (slpmul s.2 hw.y).2
  have m3 := (slpmul s'.1 hw'.x).2
  have m4 := (slpmul s'.2 hw'.y).2
  have k := core hC hR hw hw' e1 e2
  have p1 : 0 ≤ ab (w.2.2.1 - w'.2.2.1) := by unfold ab; split <;> omega
  have p2 : 0 ≤ ab (w.2.2.2 - w'.2.2.2) := by unfold ab; split <;> omega
  have eh : nOf t w'.1 w'.2.1 = nOf t w.1 w.2.1 := by rw [e1, e2]
  unfold HtW
  rw [eh]
  unfold slW at *
  generalize ab (w.2.2.1 - w'.2.2.1) = u at *
  generalize ab (w.2.2.2 - w'.2.2.2) = v at *
  unfold ab
  split <;> omega
/-! ### Corners -/
theorem near {D C a : Int} (hC : 17179869184 ≤ C ∧ C ≤ 274877906944) (h : Slp D C a) : -33 ≤ mulR a C - D ∧ mulR a C - D ≤ 33 := by
  have m := (slpmul ⟨h.lo, h.hi⟩ (d := C) (by omega)).2
  have := h.nlo
  have := h.nhi
  omega
theorem mul0 (a : Int) : mulR a 0 = 0 := by unfold mulR; rw [Int.mul_zero]; rfl
theorem on_line {j c : Nat} {cell k : Int} (hc : 0 < cell) (hj : j ≤ c) (h : Cel ((j : Int) * cell) cell (c : Int) k) : ∃ e : Nat, e ≤ 1 ∧ (j : Int) = k + e ∧ (j : Int) * cell - k * cell = e * cell := by
  have l := h.lo (Int.mul_nonneg (by omega) (Int.le_of_lt hc))
  have l1 := Int.le_of_mul_le_mul_right l hc
  have u : (j : Int) ≤ k + 1 := by
    rcases h.hi with q | q
    · omega
    · rw [show k * cell + cell = (k + 1) * cell by rw [Int.add_mul, Int.one_mul]] at q
      have := Int.lt_of_mul_lt_mul_right q (Int.le_of_lt hc)
      omega
  refine ⟨((j : Int) - k).toNat, by omega, by omega, ?_⟩
  rw [Int.toNat_of_nonneg (by omega), Int.sub_mul]
end Go.Proofs.YtneiaaalbpjgiaaGreat.Ev
