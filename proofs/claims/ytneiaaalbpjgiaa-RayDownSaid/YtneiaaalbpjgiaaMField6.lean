/- The ground: its corners, and how it rises in a cell. -/
import Derived.Test.YtneiaaalbpjgiaaMField5
set_option linter.unusedVariables false
set_option linter.unusedSimpArgs false
namespace Go.Proofs.Ytneiaaalbpjgiaa.Ev
open Go

/-- Not by 'rfl': the kernel must not compare what is bound. -/
theorem bnd' {α β : Type} (a : α) (f : α → Option β) : (some a).bind f = f a := (congrArg (fun x => Option.bind x f) (Eq.refl (some a))).trans (Eq.refl (f a))
def ab (x : Int) : Int := if x < 0 then -x else x
theorem mb {a : Int} (ha : -4294967296 ≤ a ∧ a ≤ 4294967296) (x : Int) : -(4294967296 * ab x) ≤ a * x ∧ a * x ≤ 4294967296 * ab x := by
  have h := Int.natAbs_mul a x
  have h3 := Nat.mul_le_mul_right x.natAbs (show a.natAbs ≤ 4294967296 by omega)
  rw [← h] at h3
  have e : (x.natAbs : Int) = ab x := by unfold ab; split <;> omega
  generalize a * x = p at *
  omega
theorem flat {a b : Int} (ha : -4294967296 ≤ a ∧ a ≤ 4294967296) (hb : -4294967296 ≤ b ∧ b ≤ 4294967296) (x y x' y' : Int) :
    -(4294967296 * (ab (x - x') + ab (y - y'))) ≤ a * x + b * y - (a * x' + b * y') ∧ a * x + b * y - (a * x' + b * y') ≤ 4294967296 * (ab (x - x') + ab (y - y')) := by
  have m1 := mb ha (x - x')
  have m2 := mb hb (y - y')
  rw [Int.mul_sub] at m1 m2
  omega
theorem tween {x y x' y' T : Int} (h : y ≤ x) (h' : x' < y') (hx : -T ≤ x ∧ x ≤ T) (hy : -T ≤ y ∧ y ≤ T) (hx' : -T ≤ x' ∧ x' ≤ T) (hy' : -T ≤ y' ∧ y' ≤ T) :
    ∃ t, ab (x - t) + ab (t - x') = ab (x - x') ∧ ab (y - t) + ab (t - y') = ab (y - y') ∧ -T ≤ t ∧ t ≤ T := by
  have one : ∀ {p q t : Int}, (p ≤ t ∧ t ≤ q) ∨ (q ≤ t ∧ t ≤ p) → ab (p - t) + ab (t - q) = ab (p - q) := by
    intro p q t h
    unfold ab
    rcases h with h | h <;> (split <;> split <;> split <;> omega)
  by_cases c1 : x ≤ x'
  · by_cases c2 : x ≤ y'
    · exact ⟨x, one (by omega), one (by omega), hx⟩
    · exact ⟨y', one (by omega), one (by omega), hy'⟩
  · by_cases c2 : y ≤ y'
    · by_cases c3 : x' ≤ y
      · exact ⟨y, one (by omega), one (by omega), hy⟩
      · exact ⟨x', one (by omega), one (by omega), hx'⟩
    · exact ⟨y', one (by omega), one (by omega), hy'⟩
theorem cross {a b a' b' x y x' y' T : Int} (ha : -4294967296 ≤ a ∧ a ≤ 4294967296) (hb : -4294967296 ≤ b ∧ b ≤ 4294967296) (ha' : -4294967296 ≤ a' ∧ a' ≤ 4294967296) (hb' : -4294967296 ≤ b' ∧ b' ≤ 4294967296)
    (hs : -2 ≤ a + b - a' - b' ∧ a + b - a' - b' ≤ 2) (h : y ≤ x) (h' : x' < y') (hx : -T ≤ x ∧ x ≤ T) (hy : -T ≤ y ∧ y ≤ T) (hx' : -T ≤ x' ∧ x' ≤ T) (hy' : -T ≤ y' ∧ y' ≤ T) :
    -(4294967296 * (ab (x - x') + ab (y - y')) + 2 * T) ≤ a * x + b * y - (a' * x' + b' * y') ∧ a * x + b * y - (a' * x' + b' * y') ≤ 4294967296 * (ab (x - x') + ab (y - y')) + 2 * T := by
  obtain ⟨t, t1, t2, t3⟩ := tween h h' hx hy hx' hy'
  have m1 := mb ha (x - t)
  have m2 := mb hb (y - t)
  have m3 := mb ha' (t - x')
  have m4 := mb hb' (t - y')
  have e : (a + b - a' - b') * t = a * t + b * t - a' * t - b' * t := by rw [Int.sub_mul, Int.sub_mul, Int.add_mul]
  have q : -(2 * T) ≤ (a + b - a' - b') * t ∧ (a + b - a' - b') * t ≤ 2 * T := by
    generalize a + b - a' - b' = s at *
    rcases (show s = -2 ∨ s = -1 ∨ s = 0 ∨ s = 1 ∨ s = 2 by omega) with rfl | rfl | rfl | rfl | rfl <;> omega
  rw [Int.mul_sub] at m1 m2 m3 m4
  rw [← t1, ← t2]
  generalize ab (x - t) = u1 at *
  generalize ab (y - t) = u2 at *
  generalize ab (t - x') = u3 at *
  generalize ab (t - y') = u4 at *
  omega
theorem sums2 {D1 D4 D2 D3 C a b a' b' : Int} (hC : 0 < C) (h1 : Slp D1 C a) (h4 : Slp D4 C b) (h2 : Slp D2 C a') (h3 : Slp D3 C b') (e : D1 + D4 = D2 + D3) : -2 ≤ a + b - a' - b' ∧ a + b - a' - b' ≤ 2 := by
  have := h1.nlo; have := h1.nhi; have := h2.nlo; have := h2.nhi; have := h3.nlo; have := h3.nhi; have := h4.nlo; have := h4.nhi
  have ex : (a + b - a' - b') * C = a * C + b * C - a' * C - b' * C := by rw [Int.sub_mul, Int.sub_mul, Int.add_mul]
  have l1 : (a + b - a' - b') * C ≤ 2 * C := by omega
  have l2 : (-2) * C ≤ (a + b - a' - b') * C := by omega
  exact ⟨Int.le_of_mul_le_mul_right l2 hC, Int.le_of_mul_le_mul_right l1 hC⟩
theorem core {t : TR} (hC : CntP t) (hR : RngP t) {w w' : Int × Int × Int × Int} (hw : WOk t w) (hw' : WOk t w') (e1 : w'.1 = w.1) (e2 : w'.2.1 = w.2.1) :
    -(4294967296 * (ab (w.2.2.1 - w'.2.2.1) + ab (w.2.2.2 - w'.2.2.2)) + 844424930131968) ≤ (slW t w).1 * w.2.2.1 + (slW t w).2 * w.2.2.2 - ((slW t w').1 * w'.2.2.1 + (slW t w').2 * w'.2.2.2) ∧
    (slW t w).1 * w.2.2.1 + (slW t w).2 * w.2.2.2 - ((slW t w').1 * w'.2.2.1 + (slW t w').2 * w'.2.2.2) ≤ 4294967296 * (ab (w.2.2.1 - w'.2.2.1) + ab (w.2.2.2 - w'.2.2.2)) + 844424930131968 := by
  have K := cor_ok hC hR hw.inc
  have c := hR.1
  have L1 := (slp c K.d1).1
  have L4 := (slp c K.d4).1
  have U2 := (slp c K.d2).1
  have U3 := (slp c K.d3).1
  have hs := sums2 (by omega) L1 L4 U2 U3 (by omega)
  have wx := hw.x
  have wy := hw.y
  have wx' := hw'.x
  have wy' := hw'.y
  have b1 := And.intro L1.lo L1.hi
  have b4 := And.intro L4.lo L4.hi
  have b2 := And.intro U2.lo U2.hi
  have b3 := And.intro U3.lo U3.hi
  have sl : ∀ v : Int × Int × Int × Int, v.1 = w.1 → v.2.1 = w.2.1 → slW t v = if v.2.2.1 < v.2.2.2 then (divS (hg t (nOf t w.1 w.2.1 + t.2.2.1.toNat + 2) - hg t (nOf t w.1 w.2.1 + t.2.2.1.toNat + 1)) t.2.1, divS (hg t (nOf t w.1 w.2.1 + t.2.2.1.toNat + 1) - hg t (nOf t w.1 w.2.1)) t.2.1) else (divS (hg t (nOf t w.1 w.2.1 + 1) - hg t (nOf t w.1 w.2.1)) t.2.1, divS (hg t (nOf t w.1 w.2.1 + t.2.2.1.toNat + 2) - hg t (nOf t w.1 w.2.1 + 1)) t.2.1) := by
    intro v h1 h2
    unfold slW slS upOf
    rw [h1, h2]
    by_cases k : v.2.2.1 < v.2.2.2
    · rw [decide_eq_true k, if_pos k]; rfl
    · rw [decide_eq_false k, if_neg k]; rfl
  rw [sl w rfl rfl, sl w' e1 e2]
  generalize divS (hg t (nOf t w.1 w.2.1 + t.2.2.1.toNat + 2) - hg t (nOf t w.1 w.2.1 + t.2.2.1.toNat + 1)) t.2.1 = a2 at *
  generalize divS (hg t (nOf t w.1 w.2.1 + t.2.2.1.toNat + 1) - hg t (nOf t w.1 w.2.1)) t.2.1 = a3 at *
  generalize divS (hg t (nOf t w.1 w.2.1 + 1) - hg t (nOf t w.1 w.2.1)) t.2.1 = a1 at *
  generalize divS (hg t (nOf t w.1 w.2.1 + t.2.2.1.toNat + 2) - hg t (nOf t w.1 w.2.1 + 1)) t.2.1 = a4 at *
  have sy : ∀ p q : Int, ab (p - q) = ab (q - p) := by intro p q; unfold ab; split <;> split <;> omega
  by_cases k : w.2.2.1 < w.2.2.2
  · by_cases k' : w'.2.2.1 < w'.2.2.2
    · rw [if_pos k, if_pos k']
      have := flat b2 b3 w.2.2.1 w.2.2.2 w'.2.2.1 w'.2.2.2
      simp only []; omega
    · rw [if_pos k, if_neg k']
      have := cross (T := 422212465065984) b1 b4 b2 b3 hs (show w'.2.2.2 ≤ w'.2.2.1 by omega) k wx' wy' wx wy
      rw [sy w'.2.2.1, sy w'.2.2.2] at this
      simp only []; omega
  · by_cases k' : w'.2.2.1 < w'.2.2.2
    · rw [if_neg k, if_pos k']
      have := cross (T := 422212465065984) b1 b4 b2 b3 hs (show w.2.2.2 ≤ w.2.2.1 by omega) k' wx wy wx' wy'
      simp only []; omega
    · rw [if_neg k, if_neg k']
      have := flat b1 b4 w.2.2.1 w.2.2.2 w'.2.2.1 w'.2.2.2
      simp only []; omega
theorem HtW_in {t : TR} (hC : CntP t) (hR : RngP t) {w : Int × Int × Int × Int} (hw : WOk t w) : -846623953387520 ≤ HtW t w ∧ HtW t w ≤ 846623953387520 := by
  have s := slS_in hC hR hw.inc (upOf w)
  have h0 := hg_ok hR (k := nOf t w.1 w.2.1) (by have := (cor_ok hC hR hw.inc).len; omega)
  have m1 := slpmul s.1 hw.x
  have m2 := slpmul s.2 hw.y
  unfold HtW slW; omega
theorem rises {t : TR} (hC : CntP t) (hR : RngP t) {w w' : Int × Int × Int × Int} (hw : WOk t w) (hw' : WOk t w') (e1 : w'.1 = w.1) (e2 : w'.2.1 = w.2.1) : ab (HtW t w - HtW t w') ≤ ab (w.2.2.1 - w'.2.2.1) + ab (w.2.2.2 - w'.2.2.2) + 196612 := by
  have s := slS_in hC hR hw.inc (upOf w)
  have s' := slS_in hC hR hw'.inc (upOf w')
  have m1 := (slpmul s.1 hw.x).2
  have m2 := (slpmul s.2 hw.y).2
  have m3 := (slpmul s'.1 hw'.x).2
  have m4 := (slpmul s'.2 hw'.y).2
  have k := core hC hR hw hw' e1 e2
  have p1 : 0 ≤ ab (w.2.2.1 - w'.2.2.1) := by unfold ab; split <;> omega
  have p2 : 0 ≤ ab (w.2.2.2 - w'.2.2.2) := by unfold ab; split <;> omega
  have eh : nOf t w'.1 w'.2.1 = nOf t w.1 w.2.1 := by rw [e1, e2]
  unfold HtW
  rw [eh]
  unfold slW at *
  generalize ab (w.2.2.1 - w'.2.2.1) = u at *
  generalize ab (w.2.2.2 - w'.2.2.2) = v at *
  unfold ab
  split <;> omega
theorem steps_fin {H H' dx dx' dy dy' : Int} (g : -846623953387520 ≤ H ∧ H ≤ 846623953387520) (g' : -846623953387520 ≤ H' ∧ H' ≤ 846623953387520)
    (x1 : -422212465065984 ≤ dx ∧ dx ≤ 422212465065984) (x2 : -422212465065984 ≤ dx' ∧ dx' ≤ 422212465065984) (y1 : -422212465065984 ≤ dy ∧ dy ≤ 422212465065984) (y2 : -422212465065984 ≤ dy' ∧ dy' ≤ 422212465065984)
    (r : ab (H - H') ≤ ab (dx - dx') + ab (dy - dy') + 196612) {A : Option Bool} (aw : A = some true) :
    ((F29_0 ((H, H'), false)).bind fun r2845 =>
      (F30_0 r2845).bind fun r2846 =>
      (F29_0 ((dx, dx'), r2846.2)).bind fun r2847 =>
      (F30_0 r2847).bind fun r2848 =>
      (F29_0 ((dy, dy'), r2848.2)).bind fun r2849 =>
      (F30_0 r2849).bind fun r2850 =>
      (F31_0 ((r2848.1, r2850.1), r2850.2)).bind fun r2851 =>
      (F31_0 ((r2851.1, (1048576 : Int)), r2851.2)).bind fun r2852 =>
      bif (decide (r2846.1 ≤ r2852.1)) then
        bif (!r2852.2) then
          A.bind fun r2853 =>
          some (r2853)
        else some false
      else some false) = some true := by
  have a1 : ∀ p, -4222124650659840 ≤ p ∧ p ≤ 4222124650659840 → ∀ o, F30_0 (p, o) = some (ab p, o) := fun p h o => absI (by omega) o
  have a2 : ∀ p, -4222124650659840 ≤ p ∧ p ≤ 4222124650659840 → 0 ≤ ab p ∧ ab p ≤ 4222124650659840 := fun p h => by unfold ab; split <;> omega
  have q1 := a2 (dx - dx') (by omega)
  have q2 := a2 (dy - dy') (by omega)
  rw [subI (i64_of (by omega)) (i64_of (by omega)) (by omega)]
  simp only [bnd']
  rw [a1 _ (by omega)]
  simp only [bnd']
  rw [subI (i64_of (by omega)) (i64_of (by omega)) (by omega)]
  simp only [bnd']
  rw [a1 _ (by omega)]
  simp only [bnd']
  rw [subI (i64_of (by omega)) (i64_of (by omega)) (by omega)]
  simp only [bnd']
  rw [a1 _ (by omega)]
  simp only [bnd']
  rw [addI (i64_of (by omega)) (i64_of (by omega)) (by omega)]
  simp only [bnd']
  rw [addI (i64_of (by omega)) (i64_of (by omega)) (by omega)]
  simp only [bnd']
  rw [decide_eq_true (show ab (H - H') ≤ ab (dx - dx') + ab (dy - dy') + 1048576 by omega), aw]
  rfl
theorem law7_0 (v) (h : Dom7_0 v) : F7_0 v = some true := by
  obtain ⟨t, ⟨px, py⟩, qx, qy⟩ := v
  unfold F7_0
  have aw := awake12
  generalize F13_0 () = A at aw ⊢
  obtain ⟨b', hb1, hb2⟩ := few_eq t
  simp only [hb1, bnd']
  cases b' with
  | false => rfl
  | true =>
    have hf := hb2.1 rfl
    rw [Bool.not_true, cond_false, new_eq t hf]
    simp only [bnd']
    by_cases hC : CntP t
    case neg => simp only [if_neg hC, aw]; rfl
    by_cases hR : RngP t
    case neg => simp only [if_pos hC, if_neg hR, aw]; rfl
    simp only [if_pos hC, if_pos hR]
    have w1 := where_p hC hR px py
    have w2 : F15_0 ((qx, qy), ((fldO t).1, ((fldO t).2.2, (fldO t).2.1))) = some (W t qx qy, fldO t) := where_p hC hR qx qy
    rw [w1]
    simp only [bnd', w2]
    by_cases e1 : (W t px py).1 = (W t qx qy).1
    case neg => rw [show ((W t px py).1 != (W t qx qy).1) = true from bne_iff_ne.2 e1, cond_true, aw]; rfl
    rw [show ((W t px py).1 != (W t qx qy).1) = false by rw [e1]; simp, cond_false]
    by_cases e2 : (W t px py).2.1 = (W t qx qy).2.1
    case neg => rw [show ((W t px py).2.1 != (W t qx qy).2.1) = true from bne_iff_ne.2 e2, cond_true, aw]; rfl
    rw [show ((W t px py).2.1 != (W t qx qy).2.1) = false by rw [e2]; simp, cond_false]
    have h1 : F21_0 ((px, py), (false, ((fldO t).1, ((fldO t).2.2, (fldO t).2.1)))) = some (HtW t (W t px py), (false, fldO t)) := height_p hC hR px py false
    have h2 : F21_0 ((qx, qy), (false, ((fldO t).1, ((fldO t).2.2, (fldO t).2.1)))) = some (HtW t (W t qx qy), (false, fldO t)) := height_p hC hR qx qy false
    simp only [h1, h2, bnd']
    have hw := W_ok hC hR px py
    have hw' := W_ok hC hR qx qy
    exact steps_fin (HtW_in hC hR hw) (HtW_in hC hR hw') hw.x hw'.x hw.y hw'.y (rises hC hR hw hw' e1.symm e2.symm) aw
/-! ### Corners -/
theorem near {D C a : Int} (hC : 17179869184 ≤ C ∧ C ≤ 274877906944) (h : Slp D C a) : -33 ≤ mulR a C - D ∧ mulR a C - D ≤ 33 := by
  have m := (slpmul ⟨h.lo, h.hi⟩ (d := C) (by omega)).2
  have := h.nlo
  have := h.nhi
  omega
theorem mul0 (a : Int) : mulR a 0 = 0 := by unfold mulR; rw [Int.mul_zero]; rfl
theorem on_line {j c : Nat} {cell k : Int} (hc : 0 < cell) (hj : j ≤ c) (h : Cel ((j : Int) * cell) cell (c : Int) k) : ∃ e : Nat, e ≤ 1 ∧ (j : Int) = k + e ∧ (j : Int) * cell - k * cell = e * cell := by
  have l := h.lo (Int.mul_nonneg (by omega) (Int.le_of_lt hc))
  have l1 := Int.le_of_mul_le_mul_right l hc
  have u : (j : Int) ≤ k + 1 := by
    rcases h.hi with q | q
    · omega
    · rw [show k * cell + cell = (k + 1) * cell by rw [Int.add_mul, Int.one_mul]] at q
      have := Int.lt_of_mul_lt_mul_right q (Int.le_of_lt hc)
      omega
  refine ⟨((j : Int) - k).toNat, by omega, by omega, ?_⟩
  rw [Int.toNat_of_nonneg (by omega), Int.sub_mul]
theorem law6_0 (v) (h : Dom6_0 v) : F6_0 v = some true := by
  obtain ⟨t, n0⟩ := v
  unfold F6_0
  have aw := awake12
  generalize F13_0 () = A at aw ⊢
  obtain ⟨b', hb1, hb2⟩ := few_eq t
  simp only [hb1, bnd']
  cases b' with
  | false => rfl
  | true =>
    have hf := hb2.1 rfl
    rw [Bool.not_true, cond_false, new_eq t hf]
    simp only [bnd']
    by_cases hC : CntP t
    case neg => simp only [if_neg hC, aw]; rfl
    by_cases hR : RngP t
    case neg => simp only [if_pos hC, if_neg hR, aw]; rfl
    simp only [if_pos hC, if_pos hR]
    by_cases c1 : n0 < 0
    · rw [decide_eq_true c1, cond_true, aw]; rfl
    rw [decide_eq_false c1, cond_false]
    by_cases c2 : n0 ≥ (t.2.2.2.2.2.2.1.length : Int)
    · rw [decide_eq_true c2, cond_true, aw]; rfl
    rw [decide_eq_false c2, cond_false, decide_eq_false (show ¬ t.2.2.1 < 1 by have := hC.1; omega), cond_false]
    obtain ⟨n0, rfl⟩ := Int.eq_ofNat_of_zero_le (show 0 ≤ n0 by omega)
    obtain ⟨c, r, ec, er, hc, hr, hl, hg'⟩ := hC.nat
    have hcell := hR.1
    have e0 : IntKind.wrap .i64 (t.2.2.1 + 1) = ((c + 1 : Nat) : Int) := by rw [ec, f64 (by omega)]; omega
    have hj : n0 % (c + 1) ≤ c := by have := Nat.mod_lt n0 (show 0 < c + 1 by omega); omega
    have hk : n0 / (c + 1) ≤ r := by
      have : n0 / (c + 1) < r + 1 := by rw [Nat.div_lt_iff_lt_mul (by omega), Nat.mul_comm]; omega
      omega
    have hn := Nat.div_add_mod n0 (c + 1)
    have e1 : Int.tmod (n0 : Int) ((c + 1 : Nat) : Int) = ((n0 % (c + 1) : Nat) : Int) := by rw [tmod_nn (by omega), ← Int.natCast_emod]
    have e2 : Int.tdiv (n0 : Int) ((c + 1 : Nat) : Int) = ((n0 / (c + 1) : Nat) : Int) := by rw [tdiv_nn (by omega), ← Int.natCast_ediv]
    simp only [e0, e1, e2, show (((c + 1 : Nat) : Int) != 0) = true from bne_iff_ne.2 (by omega), chk, bnd']
    generalize n0 % (c + 1) = j at *
    generalize n0 / (c + 1) = k at *
    have pj := prod_le (a := (j : Int)) (b := t.2.1) (A := 64) (B := 274877906944) (by omega) (by omega) (by omega) hcell.2
    have pk := prod_le (a := (k : Int)) (b := t.2.1) (A := 64) (B := 274877906944) (by omega) (by omega) (by omega) hcell.2
    have bx := hR.2.1.1
    have by' := hR.2.1.2
    rw [f64 (show -9223372036854775808 ≤ (j : Int) * t.2.1 ∧ (j : Int) * t.2.1 ≤ 9223372036854775807 by omega), f64 (show -9223372036854775808 ≤ (k : Int) ∧ (k : Int) ≤ 9223372036854775807 by omega), f64 (show -9223372036854775808 ≤ (k : Int) * t.2.1 ∧ (k : Int) * t.2.1 ≤ 9223372036854775807 by omega), f64 (by omega), f64 (by omega), height_p hC hR]
    have cx : clampS (t.2.2.2.2.1 + (j : Int) * t.2.1) - t.2.2.2.2.1 = (j : Int) * t.2.1 := by unfold clampS; rw [if_neg (by omega), if_neg (by omega)]; omega
    have cy : clampS (t.2.2.2.2.2.1 + (k : Int) * t.2.1) - t.2.2.2.2.2.1 = (k : Int) * t.2.1 := by unfold clampS; rw [if_neg (by omega), if_neg (by omega)]; omega
    have hw := W_ok hC hR (t.2.2.2.2.1 + (j : Int) * t.2.1) (t.2.2.2.2.2.1 + (k : Int) * t.2.1)
    obtain ⟨u, hu1, hu2⟩ := normal_g hC hR (t.2.2.2.2.1 + (j : Int) * t.2.1) (t.2.2.2.2.2.1 + (k : Int) * t.2.1)
    have key : -66 ≤ HtW t (W t (t.2.2.2.2.1 + (j : Int) * t.2.1) (t.2.2.2.2.2.1 + (k : Int) * t.2.1)) - hg t n0 ∧ HtW t (W t (t.2.2.2.2.1 + (j : Int) * t.2.1) (t.2.2.2.2.2.1 + (k : Int) * t.2.1)) - hg t n0 ≤ 66 := by
      unfold W at hw ⊢
      rw [cx, cy, ec, er] at hw ⊢
      have qx := cellS_ok (d := (j : Int) * t.2.1) (cell := t.2.1) (many := (c : Int)) (by omega) (by omega)
      have qy := cellS_ok (d := (k : Int) * t.2.1) (cell := t.2.1) (many := (r : Int)) (by omega) (by omega)
      obtain ⟨ex, hex, jx, dx⟩ := on_line (by omega) hj qx
      obtain ⟨ey, hey, ky, dy⟩ := on_line (by omega) hk qy
      rw [dx, dy] at hw ⊢
      generalize cellS ((j : Int) * t.2.1) t.2.1 (c : Int) = a at *
      generalize cellS ((k : Int) * t.2.1) t.2.1 (r : Int) = b at *
      have hI : InC t a b := hw.inc
      have K := cor_ok hC hR hI
      obtain ⟨a, rfl⟩ := Int.eq_ofNat_of_zero_le hI.1.1
      obtain ⟨b, rfl⟩ := Int.eq_ofNat_of_zero_le hI.2.1
      have en : nOf t a b = b * (c + 1) + a := by unfold nOf; rw [ec]; simp
      have et : t.2.2.1.toNat = c := by rw [ec]; simp
      have L1 := near hcell (slp hcell K.d1).1
      have L4 := near hcell (slp hcell K.d4).1
      have U2 := near hcell (slp hcell K.d2).1
      have U3 := near hcell (slp hcell K.d3).1
      have jn : j = a + ex := by omega
      have kn : k = b + ey := by omega
      have en0 : n0 = nOf t a b + ex + ey * (c + 1) := by
        rw [← hn, kn, jn, en, Nat.mul_comm, Nat.add_mul]; omega
      unfold HtW slW slS upOf
      simp only []
      rw [et] at L4 U2 U3 ⊢
      rcases (show ex = 0 ∨ ex = 1 by omega) with rfl | rfl
      · rcases (show ey = 0 ∨ ey = 1 by omega) with rfl | rfl
        · rw [en0]; simp only [Int.natCast_zero, Int.zero_mul, mul0, Nat.zero_mul, Nat.add_zero]; omega
        · rw [en0]
          simp only [Int.natCast_zero, Int.zero_mul, mul0, Nat.one_mul, Nat.add_zero, show ((1 : Nat) : Int) = 1 from rfl, Int.one_mul, decide_eq_true (show (0 : Int) < t.2.1 by omega), cond_true]
          rw [show nOf t a b + (c + 1) = nOf t a b + c + 1 from rfl]; omega
      · rcases (show ey = 0 ∨ ey = 1 by omega) with rfl | rfl
        · rw [en0]
          simp only [Int.natCast_zero, Int.zero_mul, mul0, Nat.zero_mul, Nat.add_zero, show ((1 : Nat) : Int) = 1 from rfl, Int.one_mul, decide_eq_false (show ¬ t.2.1 < (0 : Int) by omega), cond_false]
          omega
        · rw [en0]
          simp only [Nat.one_mul, show ((1 : Nat) : Int) = 1 from rfl, Int.one_mul, decide_eq_false (show ¬ t.2.1 < t.2.1 by omega), cond_false]
          rw [show nOf t a b + 1 + (c + 1) = nOf t a b + c + 2 by omega]; omega
    have g := HtW_in hC hR hw
    generalize HtW t (W t (t.2.2.2.2.1 + (j : Int) * t.2.1) (t.2.2.2.2.2.1 + (k : Int) * t.2.1)) = H at *
    have hn0 : n0 < t.2.2.2.2.2.2.1.length := by omega
    have y0 : rdx t.2.2.2.2.2.2.1 (n0 : Int) = some (hg t n0) := fdD hn0
    have hh := hg_ok hR hn0
    have nn : ∀ o, F23_0 ((t.2.2.2.2.1 + (j : Int) * t.2.1, t.2.2.2.2.2.1 + (k : Int) * t.2.1), (o, ((fldO t).1, ((fldO t).2.2, (fldO t).2.1)))) = some (u, (o, fldO t)) := fun o => (hu2 o).1
    simp only [bnd', y0]
    rw [subI (i64_of (by omega)) (i64_of (by omega)) (by omega)]
    simp only [bnd', nn]
    rw [absI (by omega)]
    simp only [bnd']
    rw [decide_eq_true (show (if H - hg t n0 < 0 then -(H - hg t n0) else H - hg t n0) ≤ 4096 by split <;> omega), decide_eq_true (show u.2.2 ≥ 2147483648 from hu1), aw]
    rfl
end Go.Proofs.Ytneiaaalbpjgiaa.Ev
