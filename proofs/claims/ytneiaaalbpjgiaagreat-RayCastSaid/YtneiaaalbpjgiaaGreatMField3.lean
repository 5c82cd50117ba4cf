/- The ground: where a place lies, how steep it is there, and how high. -/
import Derived.Test.YtneiaaalbpjgiaaGreatMField2
set_option linter.unusedVariables false
set_option linter.unusedSimpArgs false
namespace Go.Proofs.YtneiaaalbpjgiaaGreat.Ev
open Go

def clampS (n : Int) : Int := if n < -281474976710656 then -281474976710656 else if n > 281474976710656 then 281474976710656 else n
theorem clampS_in (n : Int) : -281474976710656 ≤ clampS n ∧ clampS n ≤ 281474976710656 := by unfold clampS; split <;> (try split) <;> omega
theorem clamp_p (n : Int) : F39_0 (n, (-281474976710656, 281474976710656)) = some (clampS n) ∧ F91_0 (n, (-281474976710656, 281474976710656)) = some (clampS n) := by
  unfold F39_0 F91_0 clampS
  by_cases h : n < -281474976710656
  · simp [h]
  · by_cases h2 : n > 281474976710656 <;> simp [h, h2]
def posS (d : Int) : Int := if 0 > d then 0 else d
def cellS (d cell many : Int) : Int := if many - 1 < posS d / cell then many - 1 else posS d / cell
structure Cel (d cell many k : Int) : Prop where
  k0 : 0 ≤ k
  km : k < many
  lo : 0 ≤ d → k * cell ≤ d
  neg : d < 0 → k = 0
  hi : k = many - 1 ∨ d < k * cell + cell
theorem cellS_ok {d cell many : Int} (hc : 0 < cell) (hm : 1 ≤ many) : Cel d cell many (cellS d cell many) := by
  have h0 : 0 ≤ posS d := by unfold posS; split <;> omega
  have h1 := Int.ediv_nonneg h0 (Int.le_of_lt hc)
  have h2 := Int.mul_ediv_add_emod (posS d) cell
  have h3 := Int.emod_nonneg (posS d) (show cell ≠ 0 by omega)
  have h4 := Int.emod_lt_of_pos (posS d) hc
  rw [Int.mul_comm] at h2
  have hq : d < 0 → posS d / cell = 0 := by intro h; rw [show posS d = 0 by unfold posS; rw [if_pos (by omega)]]; exact Int.zero_ediv _
  unfold cellS
  have hp : posS d = if 0 > d then 0 else d := rfl
  by_cases c : many - 1 < posS d / cell
  · rw [if_pos c]
    refine ⟨by omega, by omega, fun hd => ?_, fun hd => ?_, Or.inl rfl⟩
    · have := Int.mul_le_mul_of_nonneg_right (show many - 1 ≤ posS d / cell by omega) (Int.le_of_lt hc)
      rw [if_neg (by omega)] at hp; omega
    · have := hq hd; omega
  · rw [if_neg c]
    refine ⟨h1, by omega, fun hd => ?_, hq, Or.inr ?_⟩
    · rw [if_neg (by omega)] at hp; omega
    · split at hp <;> omega
theorem Cel.far {d cell many k : Int} (h : Cel d cell many k) (hd : -422212465065984 ≤ d ∧ d ≤ 422212465065984) (hc : 0 < cell) : (0 ≤ k * cell ∧ k * cell ≤ 422212465065984) ∧ -422212465065984 ≤ d - k * cell ∧ d - k * cell ≤ 422212465065984 := by
  have h1 := Int.mul_nonneg h.k0 (Int.le_of_lt hc)
  by_cases c : 0 ≤ d
  · have := h.lo c; omega
  · rw [h.neg (by omega), Int.zero_mul]; omega
theorem axis_p {cell many : Int} (n from_ : Int) (w : Int × Int × Int × Int) (x y : List Int) (hc : 17179869184 ≤ cell ∧ cell ≤ 274877906944) (hm : 1 ≤ many ∧ many ≤ 64) (hf : -140737488355328 ≤ from_ ∧ from_ ≤ 140737488355328) :
    F40_0 ((n, (from_, many)), ((cell, w), (x, y))) = some ((cellS (clampS n - from_) cell many, clampS n - from_ - cellS (clampS n - from_) cell many * cell), ((cell, w), (y, x))) := by
  have hn := clampS_in n
  have hk := cellS_ok (d := clampS n - from_) (cell := cell) (many := many) (by omega) hm.1
  have hF := hk.far (by omega) (by omega)
  unfold F40_0
  simp only [(clamp_p n).1, Option.bind_some]
  rw [f64 (show -9223372036854775808 ≤ clampS n - from_ ∧ clampS n - from_ ≤ 9223372036854775807 by omega), f64 (show -9223372036854775808 ≤ many - 1 ∧ many - 1 ≤ 9223372036854775807 by omega)]
  generalize hdd : clampS n - from_ = d at *
  have p0 : 0 ≤ posS d ∧ posS d ≤ 422212465065984 := by unfold posS; split <;> omega
  have q0 := Int.ediv_nonneg p0.1 (show 0 ≤ cell by omega)
  have q1 := Int.ediv_le_self cell p0.1
  have e1 : IntKind.wrap .i64 (Int.tdiv (if 0 > d then 0 else d) cell) = posS d / cell := by
    show IntKind.wrap .i64 (Int.tdiv (posS d) cell) = posS d / cell
    rw [tdiv_nn p0.1, f64 (by omega)]
  rw [show (cell != 0) = true from bne_iff_ne.2 (by omega), e1]
  simp only [chk, cond_true, Option.bind_some]
  rw [show (if many - 1 < posS d / cell then many - 1 else posS d / cell) = cellS d cell many from rfl, f64 (show -9223372036854775808 ≤ cellS d cell many * cell ∧ cellS d cell many * cell ≤ 9223372036854775807 by omega), f64 (by omega)]
theorem rxK (n : Nat) : K83_0 (n + 1) = B83_0_3 (K83_0 n) := rfl
theorem rx_loop {d cell many k : Int} (hC : Cel d cell many k) (hd : -422212465065984 ≤ d ∧ d ≤ 422212465065984) (hc : 17179869184 ≤ cell ∧ cell ≤ 274877906944) (hm : 1 ≤ many ∧ many ≤ 64) : ∀ (m f : Nat) (j : Int), 0 ≤ j → j + m = k → m < f →
    K83_0 f (cell, (many, (d - j * cell, j))) = some (k, d - k * cell) := by
  have hk0 := hC.k0
  have hkm := hC.km
  intro m
  induction m with
  | zero =>
    intro f j h0 hj hf
    obtain ⟨f, rfl⟩ : ∃ q, f = q + 1 := ⟨f - 1, by omega⟩
    have : j = k := by omega
    subst this
    rw [rxK]
    unfold B83_0_3
    simp only []
    rw [f64 (by omega)]
    rcases hC.hi with h | h
    · rw [decide_eq_false (by omega), cond_false]
    · by_cases c : j + 1 < many
      · rw [decide_eq_true c, cond_true, decide_eq_false (by omega), cond_false]
      · rw [decide_eq_false c, cond_false]
  | succ m ih =>
    intro f j h0 hj hf
    obtain ⟨f, rfl⟩ : ∃ q, f = q + 1 := ⟨f - 1, by omega⟩
    rw [rxK]
    unfold B83_0_3
    simp only []
    have hd0 : 0 ≤ d := by
      rcases Int.lt_or_le d 0 with h | h
      · have := hC.neg h; omega
      · exact h
    have h1 := Int.mul_le_mul_of_nonneg_right (show j + 1 ≤ k by omega) (show 0 ≤ cell by omega)
    have h2 := hC.lo hd0
    have h3 := Int.mul_nonneg h0 (show 0 ≤ cell by omega)
    rw [Int.add_mul, Int.one_mul] at h1
    rw [f64 (show -9223372036854775808 ≤ j + 1 ∧ j + 1 ≤ 9223372036854775807 by omega), decide_eq_true (show j + 1 < many by omega), cond_true, decide_eq_true (show d - j * cell ≥ cell by omega), cond_true, f64 (by omega)]
    have := ih f (j + 1) (by omega) (by omega) (by omega)
    rw [Int.add_mul, Int.one_mul, show d - (j * cell + cell) = d - j * cell - cell by omega] at this
    exact this
theorem axis_r {cell many : Int} (n from_ : Int) (hc : 17179869184 ≤ cell ∧ cell ≤ 274877906944) (hm : 1 ≤ many ∧ many ≤ 64) (hf : -140737488355328 ≤ from_ ∧ from_ ≤ 140737488355328) :
    F83_0 (n, (from_, (cell, many))) = some (cellS (clampS n - from_) cell many, clampS n - from_ - cellS (clampS n - from_) cell many * cell) := by
  have hn := clampS_in n
  have hk := cellS_ok (d := clampS n - from_) (cell := cell) (many := many) (by omega) hm.1
  have hkm := hk.km
  have hk0 := hk.k0
  have := rx_loop hk (by omega) hc hm (cellS (clampS n - from_) cell many).toNat 1000 0 (by omega) (by omega) (by omega)
  unfold F83_0 E83_0
  simp only [(clamp_p n).2, Option.bind_some]
  rw [f64 (by omega)]
  rw [Int.zero_mul, Int.sub_zero] at this
  exact this
/-! ### Where -/
def W (t : TR) (x y : Int) : Int × Int × Int × Int :=
  (cellS (clampS x - t.2.2.2.2.1) t.2.1 t.2.2.1, (cellS (clampS y - t.2.2.2.2.2.1) t.2.1 t.2.2.2.1, (clampS x - t.2.2.2.2.1 - cellS (clampS x - t.2.2.2.2.1) t.2.1 t.2.2.1 * t.2.1, clampS y - t.2.2.2.2.2.1 - cellS (clampS y - t.2.2.2.2.2.1) t.2.1 t.2.2.2.1 * t.2.1)))
def fldO (t : TR) : TF := ((t.2.1, (t.2.2.1, (t.2.2.2.1, (t.2.2.2.2.1, t.2.2.2.2.2.1)))), (t.2.2.2.2.2.2.1, t.2.2.2.2.2.2.2.1))
theorem where_p {t : TR} (hC : CntP t) (hR : RngP t) (x y : Int) : F22_0 ((x, y), fldT t) = some (W t x y, fldO t) := by
  unfold F22_0 fldT fldO W
  simp only []
  rw [axis_p x _ _ _ _ hR.1 hC.1 hR.2.1.1]
  simp only [Option.bind_some]
  rw [axis_p y _ _ _ _ hR.1 hC.2.1 hR.2.1.2]
  simp only [Option.bind_some]
theorem where_r {t : TR} (hC : CntP t) (hR : RngP t) (x y : Int) : F61_0 (t, (x, y)) = some (W t x y) := by
  unfold F61_0 W
  simp only []
  rw [axis_r x _ hR.1 hC.1 hR.2.1.1]
  simp only [Option.bind_some]
  rw [axis_r y _ hR.1 hC.2.1 hR.2.1.2]
  simp only [Option.bind_some]
structure WOk (t : TR) (w : Int × Int × Int × Int) : Prop where
  c0 : 0 ≤ w.1
  c1 : w.1 < t.2.2.1
  r0 : 0 ≤ w.2.1
  r1 : w.2.1 < t.2.2.2.1
  x : -422212465065984 ≤ w.2.2.1 ∧ w.2.2.1 ≤ 422212465065984
  y : -422212465065984 ≤ w.2.2.2 ∧ w.2.2.2 ≤ 422212465065984
theorem W_ok {t : TR} (hC : CntP t) (hR : RngP t) (x y : Int) : WOk t (W t x y) := by
  have hx := clampS_in x
  have hy := clampS_in y
  have b1 := hR.2.1.1
  have b2 := hR.2.1.2
  have a := cellS_ok (d := clampS x - t.2.2.2.2.1) (cell := t.2.1) (many := t.2.2.1) (by have := hR.1; omega) hC.1.1
  have b := cellS_ok (d := clampS y - t.2.2.2.2.2.1) (cell := t.2.1) (many := t.2.2.2.1) (by have := hR.1; omega) hC.2.1.1
  exact ⟨a.k0, a.km, b.k0, b.km, (a.far (by omega) (by have := hR.1; omega)).2, (b.far (by omega) (by have := hR.1; omega)).2⟩
/-! ### A cell's heights -/
def InC (t : TR) (a b : Int) : Prop := (0 ≤ a ∧ a < t.2.2.1) ∧ 0 ≤ b ∧ b < t.2.2.2.1
def nOf (t : TR) (a b : Int) : Nat := b.toNat * (t.2.2.1.toNat + 1) + a.toNat
def hg (t : TR) (k : Nat) : Int := t.2.2.2.2.2.2.1.getD k 0
structure Cor (t : TR) (n : Nat) : Prop where
  len : n + t.2.2.1.toNat + 2 < t.2.2.2.2.2.2.1.length
  d1 : -t.2.1 ≤ hg t (n + 1) - hg t n ∧ hg t (n + 1) - hg t n ≤ t.2.1
  d2 : -t.2.1 ≤ hg t (n + t.2.2.1.toNat + 2) - hg t (n + t.2.2.1.toNat + 1) ∧ hg t (n + t.2.2.1.toNat + 2) - hg t (n + t.2.2.1.toNat + 1) ≤ t.2.1
  d3 : -t.2.1 ≤ hg t (n + t.2.2.1.toNat + 1) - hg t n ∧ hg t (n + t.2.2.1.toNat + 1) - hg t n ≤ t.2.1
  d4 : -t.2.1 ≤ hg t (n + t.2.2.1.toNat + 2) - hg t (n + 1) ∧ hg t (n + t.2.2.1.toNat + 2) - hg t (n + 1) ≤ t.2.1
theorem cor_ok {t : TR} (hC : CntP t) (hR : RngP t) {a b : Int} (h : InC t a b) : Cor t (nOf t a b) := by
  obtain ⟨c, r, ec, er, hc, hr, hl, hg'⟩ := hC.nat
  have G := hR.2.2.2.1
  rw [ec, Int.toNat_natCast] at G
  obtain ⟨⟨a0, a1⟩, b0, b1⟩ := h
  obtain ⟨a, rfl⟩ := Int.eq_ofNat_of_zero_le a0
  obtain ⟨b, rfl⟩ := Int.eq_ofNat_of_zero_le b0
  have en : nOf t a b = b * (c + 1) + a := by unfold nOf; rw [ec]; simp
  rw [en]
  have hac : a < c := by omega
  have hbr : b < r := by omega
  have l1 : (b + 1) * (c + 1) ≤ r * (c + 1) := Nat.mul_le_mul_right _ (by omega)
  rw [Nat.add_mul, Nat.one_mul] at l1
  rw [Nat.mul_comm, Nat.add_mul, Nat.one_mul] at hl
  have m1 : ((b * (c + 1) + a) + 1) % (c + 1) ≠ 0 := by
    rw [show b * (c + 1) + a + 1 = (a + 1) + (c + 1) * b by rw [Nat.mul_comm]; omega, Nat.add_mul_mod_self_left, Nat.mod_eq_of_lt (by omega)]; omega
  have m2 : ((b * (c + 1) + a) + (c + 1) + 1) % (c + 1) ≠ 0 := by
    rw [show b * (c + 1) + a + (c + 1) + 1 = (a + 1) + (c + 1) * (b + 1) by rw [show (c + 1) * (b + 1) = b * (c + 1) + (c + 1) by rw [Nat.mul_comm, Nat.add_mul, Nat.one_mul]]; omega, Nat.add_mul_mod_self_left, Nat.mod_eq_of_lt (by omega)]; omega
  have hn : b * (c + 1) + a + c + 2 < t.2.2.2.2.2.2.1.length := by omega
  generalize b * (c + 1) + a = n at *
  have g1 := (G n (by omega)).1 m1
  have g2 := (G (n + (c + 1)) (by omega)).1 m2
  have g3 := (G n (by omega)).2 (by omega)
  have g4 := (G (n + 1) (by omega)).2 (by omega)
  have e1 : n + (c + 1) = n + c + 1 := rfl
  have e2 : n + 1 + (c + 1) = n + c + 2 := by omega
  rw [e1] at g2 g3
  rw [e2] at g4
  have et : t.2.2.1.toNat = c := by rw [ec]; simp
  exact ⟨by rw [et]; exact hn, g1, by rw [et]; exact g2, by rw [et]; exact g3, by rw [et]; exact g4⟩
end Go.Proofs.YtneiaaalbpjgiaaGreat.Ev
