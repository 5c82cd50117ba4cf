/- Division of numbers of 128 bits: what the program reckons. -/
import Derived.Test.YtneiaaalbpjgiaaGreatMWide
set_option linter.unusedVariables false
set_option linter.unusedSimpArgs false
namespace Go.Proofs.YtneiaaalbpjgiaaGreat.Ev
open Go

theorem len8_get (i : Nat) (h : i < 256) : ∃ b, rdb sc0 (i : Int) = some b ∧ b.toNat = bitLen i := by
  have all : ∀ j : Fin 256, (rdb sc0 (j.val : Int)).map (·.toNat) = some (bitLen j.val) := by decide +kernel
  have := all ⟨i, h⟩
  obtain ⟨b, h1, h2⟩ := Option.map_eq_some_iff.1 this
  exact ⟨b, h1, h2⟩
theorem len64_step {x : Nat} (b : Nat) (h : 2 ^ b ≤ x) : bitLen x = b + bitLen (x / 2 ^ b) := bitLen_shift x b (by have := Nat.div_pos h (Nat.two_pow_pos b); omega)
theorem len_leaf {x k c : Nat} (h : bitLen x = c + k) (hc : c ≤ 56) (hk : (k : Int) ≤ 8) : some (IntKind.wrap .i64 ((c : Int) + IntKind.wrap .i64 (k : Int))) = some ((bitLen x : Nat) : Int) := by
  rw [h, IntKind.wrap_i64, IntKind.wrap_i64]
  exact some_eq (by omega)
theorem len64_eq (x : Nat) (hx : x < 18446744073709551616) : F96_0 (x : Int) = some ((bitLen x : Nat) : Int) := by
  have low : ∀ y : Nat, y < 256 → ∃ b, rdb sc0 (IntKind.wrap .u8 (y : Int)) = some b ∧ (b.toNat : Int) = (bitLen y : Nat) ∧ (0 : Int) ≤ (bitLen y : Nat) ∧ ((bitLen y : Nat) : Int) ≤ 8 := by
    intro y hy
    obtain ⟨b, h1, h2⟩ := len8_get y hy
    rw [IntKind.wrap_u8, show ((y : Int) % 256) = y by omega]
    exact ⟨b, h1, by rw [h2], by omega, by have := bitLen_le8 y hy; omega⟩
  unfold F96_0
  have s32 : ∀ z : Nat, Int.fdiv (z : Int) (2 ^ 32) = ((z / 2 ^ 32 : Nat) : Int) := fun z => by rw [fdiv_pow]; simp
  have s16 : ∀ z : Nat, Int.fdiv (z : Int) (2 ^ 16) = ((z / 2 ^ 16 : Nat) : Int) := fun z => by rw [fdiv_pow]; simp
  have s8 : ∀ z : Nat, Int.fdiv (z : Int) (2 ^ 8) = ((z / 2 ^ 8 : Nat) : Int) := fun z => by rw [fdiv_pow]; simp
  by_cases h32 : 2 ^ 32 ≤ x
  · have e32 := len64_step 32 h32
    generalize hy : x / 2 ^ 32 = y at *
    have hyb : y < 4294967296 := by omega
    simp only [cond_true, cond_false, s32, hy, show decide ((x : Int) ≥ 4294967296) = true by simp; omega]
    by_cases h16 : 2 ^ 16 ≤ y
    · have e16 := len64_step 16 h16
      generalize hz : y / 2 ^ 16 = z at *
      have hzb : z < 65536 := by omega
      simp only [cond_true, cond_false, s16, hz, show decide ((y : Int) ≥ 65536) = true by simp; omega]
      by_cases h8 : 2 ^ 8 ≤ z
      · have e8 := len64_step 8 h8
        generalize hu : z / 2 ^ 8 = u at *
        obtain ⟨b, h1, h2, h3, h4⟩ := low u (by omega)
        simp only [cond_true, cond_false, s8, hu, show decide ((z : Int) ≥ 256) = true by simp; omega, h1, Option.bind_some, h2]
        exact len_leaf (c := 56) (by rw [e32, e16, e8, ← Nat.add_assoc, ← Nat.add_assoc]) (by decide) h4
      · obtain ⟨b, h1, h2, h3, h4⟩ := low z (by omega)
        simp only [cond_true, cond_false, show decide ((z : Int) ≥ 256) = false by simp; omega, h1, Option.bind_some, h2]
        exact len_leaf (c := 48) (by rw [e32, e16, ← Nat.add_assoc]) (by decide) h4
    · simp only [cond_true, cond_false, show decide ((y : Int) ≥ 65536) = false by simp; omega]
      by_cases h8 : 2 ^ 8 ≤ y
      · have e8 := len64_step 8 h8
        generalize hu : y / 2 ^ 8 = u at *
        obtain ⟨b, h1, h2, h3, h4⟩ := low u (by omega)
        simp only [cond_true, cond_false, s8, hu, show decide ((y : Int) ≥ 256) = true by simp; omega, h1, Option.bind_some, h2]
        exact len_leaf (c := 40) (by rw [e32, e8, ← Nat.add_assoc]) (by decide) h4
      · obtain ⟨b, h1, h2, h3, h4⟩ := low y (by omega)
        simp only [cond_true, cond_false, show decide ((y : Int) ≥ 256) = false by simp; omega, h1, Option.bind_some, h2]
        exact len_leaf (c := 32) e32 (by decide) h4
  · have hyb : x < 4294967296 := by omega
    simp only [cond_true, cond_false, show decide ((x : Int) ≥ 4294967296) = false by simp; omega]
    by_cases h16 : 2 ^ 16 ≤ x
    · have e16 := len64_step 16 h16
      generalize hz : x / 2 ^ 16 = z at *
      have hzb : z < 65536 := by omega
      simp only [cond_true, cond_false, s16, hz, show decide ((x : Int) ≥ 65536) = true by simp; omega]
      by_cases h8 : 2 ^ 8 ≤ z
      · have e8 := len64_step 8 h8
        generalize hu : z / 2 ^ 8 = u at *
        obtain ⟨b, h1, h2, h3, h4⟩ := low u (by omega)
        simp only [cond_true, cond_false, s8, hu, show decide ((z : Int) ≥ 256) = true by simp; omega, h1, Option.bind_some, h2]
        exact len_leaf (c := 24) (by rw [e16, e8, ← Nat.add_assoc]) (by decide) h4
      · obtain ⟨b, h1, h2, h3, h4⟩ := low z (by omega)
        simp only [cond_true, cond_false, show decide ((z : Int) ≥ 256) = false by simp; omega, h1, Option.bind_some, h2]
        exact len_leaf (c := 16) e16 (by decide) h4
    · simp only [cond_true, cond_false, show decide ((x : Int) ≥ 65536) = false by simp; omega]
      by_cases h8 : 2 ^ 8 ≤ x
      · have e8 := len64_step 8 h8
        generalize hu : x / 2 ^ 8 = u at *
        obtain ⟨b, h1, h2, h3, h4⟩ := low u (by omega)
        simp only [cond_true, cond_false, s8, hu, show decide ((x : Int) ≥ 256) = true by simp; omega, h1, Option.bind_some, h2]
        exact len_leaf (c := 8) e8 (by decide) h4
      · obtain ⟨b, h1, h2, h3, h4⟩ := low x (by omega)
        simp only [cond_true, cond_false, show decide ((x : Int) ≥ 256) = false by simp; omega, h1, Option.bind_some, h2]
        exact len_leaf (c := 0) (Nat.zero_add _).symm (by decide) h4
/-- How far a number is shifted until its highest bit is set. -/
theorem lead_eq {y : Int} (hy : U64 y) (h0 : y ≠ 0) : ∃ s : Nat, s ≤ 63 ∧ F93_0 y = some (s : Int) ∧ 9223372036854775808 ≤ y * 2 ^ s ∧ y * 2 ^ s ≤ 18446744073709551615 := by
  unfold U64 at hy
  obtain ⟨x, rfl⟩ : ∃ x : Nat, y = (x : Int) := ⟨y.toNat, by omega⟩
  have hl := len64_eq x (by omega)
  obtain ⟨h1, h2⟩ := bitLen_spec x
  have h2 := h2 (by omega)
  generalize hb : bitLen x = b at *
  have hb1 : 1 ≤ b := by
    rcases Nat.eq_zero_or_pos b with h | h
    · subst h; simp at h1; omega
    · exact h
  have hb2 : b ≤ 64 := by
    rcases Nat.lt_or_ge 64 b with h | h
    · have := Nat.pow_le_pow_right (show 0 < 2 by decide) (show 64 ≤ b - 1 by omega)
      omega
    · exact h
  refine ⟨64 - b, by omega, ?_, ?_, ?_⟩
  · unfold F93_0
    rw [hl]
    simp only [cond_true, cond_false, Option.bind_some, IntKind.wrap_i64]
    congr 1; omega
  · have e : 2 ^ (b - 1) * 2 ^ (64 - b) = 9223372036854775808 := by rw [← Nat.pow_add, show b - 1 + (64 - b) = 63 by omega]
    have h3 : 2 ^ (b - 1) * 2 ^ (64 - b) ≤ x * 2 ^ (64 - b) := Nat.mul_le_mul_right _ h2
    rw [e] at h3
    have e2 : ((x : Int) * 2 ^ (64 - b)) = ((x * 2 ^ (64 - b) : Nat) : Int) := by simp
    rw [e2]; omega
  · have e : 2 ^ b * 2 ^ (64 - b) = 18446744073709551616 := by rw [← Nat.pow_add, show b + (64 - b) = 64 by omega]
    have h3 : x * 2 ^ (64 - b) < 2 ^ b * 2 ^ (64 - b) := Nat.mul_lt_mul_of_pos_right h1 (Nat.two_pow_pos _)
    rw [e] at h3
    have e2 : ((x : Int) * 2 ^ (64 - b)) = ((x * 2 ^ (64 - b) : Nat) : Int) := by simp
    rw [e2]; omega

/-! ### The two loops -/
theorem low_digit {Y a b c q1 u : Int} {s : Nat} (hs : s ≤ 63) (hq : 0 ≤ q1 ∧ q1 ≤ 4294967295) : ∀ (n : Nat) (q r : Int), Guess Y a b u c q r → 4294967296 ≤ r + (n : Int) * 2147483648 →
    (K89_0 n).2 (Y, ((s : Int), (a, (b, (c, (q1, (r, (u, q)))))))) = some (q1 * 4294967296 + (u * 4294967296 + c) / Y, (u * 4294967296 + c) % Y / 2 ^ s) := by
  intro n
  induction n with
  | zero => intro q r h hr; have := h.r2; omega
  | succ n ih =>
    intro q r h hr
    have hY1 := h.Y1; have hY2 := h.Y2; have ha1 := h.a1; have ha2 := h.a2; have hb1 := h.b1; have hb2 := h.b2; have hu1 := h.u1; have hu2 := h.u2; have hc1 := h.c1; have hc2 := h.c2; have hr1 := h.r1; have hr2 := h.r2; have hq1 := h.q1; have hle := h.le
    have hd := digit_lt (by omega : 0 < Y) hu1 hu2 hc1 hc2
    have hm1 := Int.emod_nonneg (u * 4294967296 + c) (show Y ≠ 0 by omega)
    have hm2 := Int.emod_lt_of_pos (u * 4294967296 + c) (show 0 < Y by omega)
    have hfd : ∀ x : Int, Int.fdiv x (2 ^ min ((s : Int)).toNat 64) = x / 2 ^ s := fun x => by rw [Int.toNat_natCast, Nat.min_eq_left (by omega), fdiv_pow]
    simp only [cond_true, cond_false, K89_0, B89_0_24, IntKind.wrap_u64, hfd, show decide (0 ≤ (s : Int)) = true by simp, chk, Option.bind_some]
    have fin : ∀ q' : Int, (u * 4294967296 + c) / Y = q' → (u * 4294967296 + c) % Y = u * 4294967296 + c - q' * Y → 0 ≤ q' → q' ≤ 4294967295 →
        some (((q1 * 4294967296) % 18446744073709551616 + q') % 18446744073709551616, (((u * 4294967296) % 18446744073709551616 + c) % 18446744073709551616 - (q' * Y) % 18446744073709551616) % 18446744073709551616 / 2 ^ s) =
          some (q1 * 4294967296 + (u * 4294967296 + c) / Y, (u * 4294967296 + c) % Y / 2 ^ s) := by
      intro q' e1 e2 e3 e4
      rw [e1]
      refine some_eq (pair_eq (by omega) ?_)
      congr 1
      rw [e2] at hm1 hm2 ⊢
      generalize q' * Y = z at *
      omega
    by_cases h1 : 4294967296 ≤ q
    · rw [decide_eq_true (show q ≥ 4294967296 from h1)]
      have ew : (q - 1) % 18446744073709551616 = q - 1 := by omega
      have er : (r + a) % 18446744073709551616 = r + a := by omega
      simp only [cond_true, cond_false, ew, er]
      by_cases h2 : 4294967296 ≤ r + a
      · rw [decide_eq_true (show r + a ≥ 4294967296 from h2)]
        obtain ⟨e1, e2⟩ := h.leave (.inl h1) h2
        exact fin (q - 1) e1 e2 (by omega) (by omega)
      · rw [decide_eq_false (show ¬ r + a ≥ 4294967296 from h2)]
        exact ih _ _ (h.next (.inl h1) (by omega)) (by omega)
    · rw [decide_eq_false (show ¬ q ≥ 4294967296 from h1)]
      have hqb := prod_le hq1 (show q ≤ 4294967295 by omega) hb1 hb2
      have e3 : (q * b) % 18446744073709551616 = q * b := by omega
      have e4 : (4294967296 * r % 18446744073709551616 + c) % 18446744073709551616 = 4294967296 * r + c := by omega
      simp only [cond_true, cond_false, e3, e4]
      by_cases h3 : 4294967296 * r + c < q * b
      · rw [decide_eq_true (show q * b > 4294967296 * r + c from h3)]
        have hd1 := (h.down (.inr h3)).1
        have ew : (q - 1) % 18446744073709551616 = q - 1 := by omega
        have er : (r + a) % 18446744073709551616 = r + a := by omega
        simp only [cond_true, cond_false, ew, er]
        by_cases h2 : 4294967296 ≤ r + a
        · rw [decide_eq_true (show r + a ≥ 4294967296 from h2)]
          obtain ⟨e1, e2⟩ := h.leave (.inr h3) h2
          exact fin (q - 1) e1 e2 (by omega) (by omega)
        · rw [decide_eq_false (show ¬ r + a ≥ 4294967296 from h2)]
          exact ih _ _ (h.next (.inr h3) (by omega)) (by omega)
      · rw [decide_eq_false (show ¬ q * b > 4294967296 * r + c from h3)]
        obtain ⟨e1, e2⟩ := h.fits (by omega) (by omega)
        exact fin q e1 e2 hq1 (by omega)
theorem high_digit {Y a b c1 c0 u : Int} {s : Nat} (hs : s ≤ 63) (h01 : 0 ≤ c0) (h02 : c0 ≤ 4294967295) : ∀ (n : Nat) (q r : Int), Guess Y a b u c1 q r → 4294967296 ≤ r + (n : Int) * 2147483648 →
    (K89_0 (n + 4)).1 (Y, ((s : Int), (a, (b, (u, (c1, (c0, (q, r)))))))) =
      some ((u * 4294967296 + c1) / Y * 4294967296 + ((u * 4294967296 + c1) % Y * 4294967296 + c0) / Y, ((u * 4294967296 + c1) % Y * 4294967296 + c0) % Y / 2 ^ s) := by
  intro n
  induction n with
  | zero => intro q r h hr; have := h.r2; omega
  | succ n ih =>
    intro q r h hr
    have hY1 := h.Y1; have hY2 := h.Y2; have ha1 := h.a1; have ha2 := h.a2; have hb1 := h.b1; have hb2 := h.b2; have hu1 := h.u1; have hu2 := h.u2; have hc1 := h.c1; have hc2 := h.c2; have hr1 := h.r1; have hr2 := h.r2; have hq1 := h.q1; have hle := h.le
    have hd := digit_lt (by omega : 0 < Y) hu1 hu2 hc1 hc2
    have hm1 := Int.emod_nonneg (u * 4294967296 + c1) (show Y ≠ 0 by omega)
    have hm2 := Int.emod_lt_of_pos (u * 4294967296 + c1) (show 0 < Y by omega)
    rw [show n + 1 + 4 = (n + 4) + 1 from rfl]
    simp only [cond_true, cond_false, K89_0, B89_0_17, IntKind.wrap_u64]
    have fin : ∀ q' : Int, (u * 4294967296 + c1) / Y = q' → (u * 4294967296 + c1) % Y = u * 4294967296 + c1 - q' * Y → 0 ≤ q' → q' ≤ 4294967295 → ∀ v, v = (((u * 4294967296) % 18446744073709551616 + c1) % 18446744073709551616 - (q' * Y) % 18446744073709551616) % 18446744073709551616 →
        ((chk (a != 0)).bind fun _ => (K89_0 (n + 4)).2 (Y, ((s : Int), (a, (b, (c0, (q', ((v - (Int.tdiv v a % 18446744073709551616 * a) % 18446744073709551616) % 18446744073709551616, (v, Int.tdiv v a % 18446744073709551616))))))))) =
          some ((u * 4294967296 + c1) / Y * 4294967296 + ((u * 4294967296 + c1) % Y * 4294967296 + c0) / Y, ((u * 4294967296 + c1) % Y * 4294967296 + c0) % Y / 2 ^ s) := by
      intro q' e1 e2 e3 e4 v hv
      have hv' : v = (u * 4294967296 + c1) % Y := by
        rw [hv]
        rw [e2] at hm1 hm2 ⊢
        generalize q' * Y = z at *
        omega
      have ha : (a != 0) = true := by simp; omega
      have hv0 : 0 ≤ v := by rw [hv']; exact hm1
      have hv1 : v < Y := by rw [hv']; exact hm2
      have hg := Guess.start h.Y1 h.Y2 h.Ye h.b1 h.b2 hv0 hv1 h01 h02
      have hg2 := hg.r1; have hg3 := hg.r2; have hg4 := hg.le; have hg5 := hg.q1
      have ht : Int.tdiv v a % 18446744073709551616 = v / a := by rw [tdiv_nn hv0]; omega
      have hp := hg.inv
      have ht2 : (v - (v / a * a) % 18446744073709551616) % 18446744073709551616 = v - v / a * a := by
        generalize v / a * a = z at *
        omega
      simp only [cond_true, cond_false, ha, chk, Option.bind_some, ht, ht2]
      rw [low_digit hs ⟨e3, e4⟩ (n + 4) _ _ hg (by omega), e1, hv']
    by_cases h1 : 4294967296 ≤ q
    · rw [decide_eq_true (show q ≥ 4294967296 from h1)]
      have ew : (q - 1) % 18446744073709551616 = q - 1 := by omega
      have er : (r + a) % 18446744073709551616 = r + a := by omega
      simp only [cond_true, cond_false, ew, er]
      by_cases h2 : 4294967296 ≤ r + a
      · rw [decide_eq_true (show r + a ≥ 4294967296 from h2)]
        obtain ⟨e1, e2⟩ := h.leave (.inl h1) h2
        exact fin (q - 1) e1 e2 (by omega) (by omega) _ rfl
      · rw [decide_eq_false (show ¬ r + a ≥ 4294967296 from h2)]
        exact ih _ _ (h.next (.inl h1) (by omega)) (by omega)
    · rw [decide_eq_false (show ¬ q ≥ 4294967296 from h1)]
      have hqb := prod_le hq1 (show q ≤ 4294967295 by omega) hb1 hb2
      have e3 : (q * b) % 18446744073709551616 = q * b := by omega
      have e4 : (4294967296 * r % 18446744073709551616 + c1) % 18446744073709551616 = 4294967296 * r + c1 := by omega
      simp only [cond_true, cond_false, e3, e4]
      by_cases h3 : 4294967296 * r + c1 < q * b
      · rw [decide_eq_true (show q * b > 4294967296 * r + c1 from h3)]
        have hd1 := (h.down (.inr h3)).1
        have ew : (q - 1) % 18446744073709551616 = q - 1 := by omega
        have er : (r + a) % 18446744073709551616 = r + a := by omega
        simp only [cond_true, cond_false, ew, er]
        by_cases h2 : 4294967296 ≤ r + a
        · rw [decide_eq_true (show r + a ≥ 4294967296 from h2)]
          obtain ⟨e1, e2⟩ := h.leave (.inr h3) h2
          exact fin (q - 1) e1 e2 (by omega) (by omega) _ rfl
        · rw [decide_eq_false (show ¬ r + a ≥ 4294967296 from h2)]
          exact ih _ _ (h.next (.inr h3) (by omega)) (by omega)
      · rw [decide_eq_false (show ¬ q * b > 4294967296 * r + c1 from h3)]
        obtain ⟨e1, e2⟩ := h.fits (by omega) (by omega)
        exact fin q e1 e2 hq1 (by omega) _ rfl
theorem pow_split {s : Nat} (hs : s ≤ 64) : (2 : Int) ^ s * 2 ^ (64 - s) = 18446744073709551616 := by
  rw [← Int.pow_add, show s + (64 - s) = 64 by omega]; rfl
theorem div64_eq {hi lo y : Int} (hh : U64 hi) (hl : U64 lo) (hy : U64 y) (hlt : hi < y) :
    F89_0 (hi, (lo, y)) = some ((hi * 18446744073709551616 + lo) / y, (hi * 18446744073709551616 + lo) % y) := by
  have hh' := hh; have hl' := hl; have hy' := hy
  unfold U64 at hh' hl' hy'
  have y0 : (y == 0) = false := by simp; omega
  have y1 : (y != 0) = true := by simp; omega
  show E89_0 (K89_0 1000) (hi, (lo, y)) = _
  unfold E89_0
  simp only [cond_true, cond_false, y0, show decide (y ≤ hi) = false by simp; omega]
  by_cases h0 : hi = 0
  · subst h0
    have e1 := Int.ediv_nonneg hl'.1 (show 0 ≤ y by omega)
    have e2 := Int.ediv_le_self y hl'.1
    simp only [cond_true, cond_false, beq_self_eq_true, y1, chk, Option.bind_some, tdiv_nn hl'.1, tmod_nn hl'.1, Int.zero_mul, Int.zero_add]
    rw [wrap_u64 (by unfold U64; omega)]
  · have h0' : (hi == 0) = false := by simp; omega
    obtain ⟨s, hs, hlead, hY1, hY2⟩ := lead_eq hy (by omega)
    have hp : (0 : Int) < 2 ^ s := Int.pow_pos (by decide)
    have hp2 : (0 : Int) < 2 ^ (64 - s) := Int.pow_pos (by decide)
    have hps := pow_split (show s ≤ 64 by omega)
    have hY : ∃ Y, Y = y * 2 ^ s := ⟨_, rfl⟩
    obtain ⟨Y, hY⟩ := hY
    rw [← hY] at hY1 hY2
    -- the upper word, shifted
    have hhp : hi * 2 ^ s + 2 ^ s ≤ Y := by
      have : (hi + 1) * 2 ^ s ≤ y * 2 ^ s := Int.mul_le_mul_of_nonneg_right (by omega) (by omega)
      rw [hY]; rw [Int.add_mul, Int.one_mul] at this; exact this
    have hhp0 : 0 ≤ hi * 2 ^ s := Int.mul_nonneg hh'.1 (by omega)
    -- the lower word's upper part
    have hlq : lo * 2 ^ s / 18446744073709551616 = lo / 2 ^ (64 - s) := by
      rw [← hps, Int.mul_comm (2 ^ s), Int.mul_ediv_mul_of_pos_left _ _ hp]
    have hl0 : 0 ≤ lo / 2 ^ (64 - s) := Int.ediv_nonneg hl'.1 (by omega)
    have hl1 : lo / 2 ^ (64 - s) < 2 ^ s := by rw [Int.ediv_lt_iff_lt_mul hp2, hps]; omega
    have f1 : ∀ x : Int, Int.fdiv x (2 ^ min ((64 - s : Nat) : Int).toNat 64) = x / 2 ^ (64 - s) := fun x => by rw [Int.toNat_natCast, Nat.min_eq_left (by omega), fdiv_pow]
    have ews : IntKind.wrap .u64 (s : Int) = s := wrap_u64 (by unfold U64; omega)
    have ewt : IntKind.wrap .u64 (64 - (s : Int)) = ((64 - s : Nat) : Int) := by rw [wrap_u64 (by unfold U64; omega)]; omega
    have em : min ((s : Int)).toNat 64 = s := by rw [Int.toNat_natCast, Nat.min_eq_left (by omega)]
    have ew1 : IntKind.wrap .u64 (y * 2 ^ s) = Y := by rw [← hY]; exact wrap_u64 ⟨by omega, hY2⟩
    have ew2 : IntKind.wrap .u64 (hi * 2 ^ s) = hi * 2 ^ s := wrap_u64 ⟨hhp0, by omega⟩
    have hjoin : bits .or .u64 (hi * 2 ^ s) (lo / 2 ^ (64 - s)) = hi * 2 ^ s + lo / 2 ^ (64 - s) := u64_join s ⟨hhp0, by omega⟩ (Int.mul_emod_left _ _) hl0 hl1 ⟨hl0, by omega⟩
    simp only [cond_true, cond_false, h0', hlead, Option.bind_some, ews, ewt, em, ew1, ew2, f1, hjoin, chk, show decide ((0 : Int) ≤ (s : Int)) = true by simp, show decide ((0 : Int) ≤ ((64 - s : Nat) : Int)) = true by simp]
    generalize hu : hi * 2 ^ s + lo / 2 ^ (64 - s) = u
    have hu0 : 0 ≤ u := by omega
    have hu1 : u < Y := by omega
    -- what is behind
    have hc : ∃ c, c = IntKind.wrap .u64 (lo * 2 ^ s) := ⟨_, rfl⟩
    obtain ⟨c, hc⟩ := hc
    rw [← hc]
    rw [IntKind.wrap_u64] at hc
    have hc0 : 0 ≤ c ∧ c ≤ 18446744073709551615 := by rw [hc]; omega
    have hN : (hi * 18446744073709551616 + lo) * 2 ^ s = u * 18446744073709551616 + c := by
      rw [hc, ← hu, ← hlq]
      have := Int.mul_ediv_add_emod (lo * 2 ^ s) 18446744073709551616
      have e : (hi * 18446744073709551616 + lo) * 2 ^ s = (hi * 2 ^ s) * 18446744073709551616 + lo * 2 ^ s := by grind
      rw [e]
      omega
    rw [and_low32 Y (by omega) (by omega), and_low32 c hc0.1 (by omega)]
    simp only [cond_true, cond_false, fdiv32]
    have a1 : 2147483648 ≤ Y / 4294967296 := by omega
    have ha : (Y / 4294967296 != 0) = true := by simp; omega
    have hYe : Y = Y / 4294967296 * 4294967296 + Y % 4294967296 := by omega
    have hg := Guess.start (Y := Y) (a := Y / 4294967296) (b := Y % 4294967296) (u := u) (c := c / 4294967296) hY1 hY2 hYe (by omega) (by omega) hu0 hu1 (by omega) (by omega)
    have hg1 := hg.r1; have hg2 := hg.r2; have hg3 := hg.le; have hg4 := hg.q1; have hg5 := hg.inv
    have hg6 : 0 ≤ u / (Y / 4294967296) * (Y / 4294967296) := Int.mul_nonneg hg4 (by omega)
    have ht : IntKind.wrap .u64 (Int.tdiv u (Y / 4294967296)) = u / (Y / 4294967296) := by rw [tdiv_nn hu0]; exact wrap_u64 ⟨hg4, by omega⟩
    have ht2 : IntKind.wrap .u64 (u - IntKind.wrap .u64 (u / (Y / 4294967296) * (Y / 4294967296))) = u - u / (Y / 4294967296) * (Y / 4294967296) := by
      generalize u / (Y / 4294967296) * (Y / 4294967296) = z at *
      rw [wrap_u64 (n := z) ⟨by omega, by omega⟩]
      exact wrap_u64 ⟨by omega, by omega⟩
    simp only [cond_true, cond_false, ha, Option.bind_some, ht, ht2]
    rw [show (1000 : Nat) = 996 + 4 from rfl, high_digit hs (by omega) (by omega) 996 _ _ hg (by omega)]
    obtain ⟨e1, e2⟩ := two_digits (N := hi * 18446744073709551616 + lo) (y := y) (p := 2 ^ s) (Y := Y) (u := u) (c1 := c / 4294967296) (c0 := c % 4294967296) (by omega) hp hY (by rw [hN]; omega) (by omega) (by omega)
    exact some_eq (pair_eq e1 e2)
/-- A number's size, and whether it is below 0. -/
theorem sized_eq {p : Int × Int} (hp : W128 p) : F88_0 p = some ((((if wv p < 0 then -wv p else wv p) / 18446744073709551616, (if wv p < 0 then -wv p else wv p) % 18446744073709551616)), decide (wv p < 0)) := by
  obtain ⟨p1, p0⟩ := p
  obtain ⟨⟨a1, a2⟩, hp0⟩ := hp
  simp only [] at *
  have hp0' := hp0
  unfold U64 at hp0'
  unfold F88_0 wv
  simp only []
  by_cases h1 : 0 ≤ p1
  · rw [decide_eq_true (show p1 ≥ 0 from h1), if_neg (by omega), decide_eq_false (by omega), cond_true]
    simp only [cond_true, cond_false, IntKind.wrap_u64]
    exact some_eq (pair_eq (pair_eq (by omega) (by omega)) rfl)
  · rw [decide_eq_false (show ¬ p1 ≥ 0 from h1), if_pos (by omega), decide_eq_true (by omega), cond_false]
    rw [sub64_eq (by unfold U64; omega) hp0 (by omega)]
    simp only [cond_true, cond_false, Option.bind_some, IntKind.wrap_u64]
    rw [sub64_eq (by unfold U64; omega) (by unfold U64; omega) (by split <;> omega)]
    simp only [cond_true, cond_false, Option.bind_some]
    exact some_eq (pair_eq (pair_eq (by split <;> omega) (by omega)) rfl)
/-- The nearest whole number to a / b, for whichever signs (b not 0). -/
def rdiv (a b : Int) : Int := if 0 < b then rhe a b else rhe (-a) (-b)
theorem rdiv_size {a b : Int} (hb : b ≠ 0) : rdiv a b = if (a < 0) = (b < 0) then rhe (if a < 0 then -a else a) (if b < 0 then -b else b) else -rhe (if a < 0 then -a else a) (if b < 0 then -b else b) := by
  unfold rdiv
  by_cases h1 : a < 0 <;> by_cases h2 : b < 0
  · rw [if_neg (by omega), if_pos (by simp [h1, h2]), if_pos h1, if_pos h2]
  · have := rhe_neg (n := -a) (d := b) (by omega)
    rw [if_pos (by omega), if_neg (by simp [h1, h2]), if_pos h1, if_neg h2, ← this, Int.neg_neg]
  · rw [if_neg (by omega), if_neg (by simp [h1, h2]), if_neg h1, if_pos h2, ← rhe_neg (by omega)]
  · rw [if_pos (by omega), if_pos (by simp [h1, h2]), if_neg h1, if_neg h2]
/-- What the last step makes of a quotient's size. -/
def signQ (neg : Bool) (x : Int) : Int × Bool := match neg with
  | true => if x ≤ 9223372036854775808 then (-x, true) else (0, false)
  | false => if x < 9223372036854775808 then (x, true) else (0, false)
theorem signQ_t {x : Int} (h0 : 0 ≤ x) (h1 : x ≤ 18446744073709551615) : (if x ≤ 9223372036854775808 then some (IntKind.wrap .i64 (IntKind.wrap .u64 (0 - x)), true) else some ((0 : Int), false)) = some (signQ true x) := by
  unfold signQ
  simp only [cond_true, cond_false, IntKind.wrap_u64, IntKind.wrap_i64]
  split
  · exact some_eq (pair_eq (by omega) rfl)
  · rfl
theorem signQ_f {x : Int} (h0 : 0 ≤ x) (h1 : x ≤ 18446744073709551615) : (if x < 9223372036854775808 then some (IntKind.wrap .i64 x, true) else some ((0 : Int), false)) = some (signQ false x) := by
  unfold signQ
  simp only [cond_true, cond_false, IntKind.wrap_i64]
  split
  · exact some_eq (pair_eq (by omega) rfl)
  · rfl
theorem divw_size {p : Int × Int} {b : Int} (hp : W128 p) (hb : I64 b) : F75_0 (p, b) =
    (let A := if wv p < 0 then -wv p else wv p
     let d := if b < 0 then -b else b
     if d ≤ A / 18446744073709551616 then some (0, false) else if rhe A d = 18446744073709551616 then some (0, false) else some (signQ (decide (wv p < 0) != decide (b < 0)) (rhe A d))) := by
  simp only []
  obtain ⟨A, hA⟩ : ∃ A, A = if wv p < 0 then -wv p else wv p := ⟨_, rfl⟩
  obtain ⟨d, hd⟩ : ∃ d, d = if b < 0 then -b else b := ⟨_, rfl⟩
  have hsz := sized_eq hp
  rw [← hA, ← hd]
  rw [← hA] at hsz
  have hA0 : 0 ≤ A := by rw [hA]; split <;> omega
  have hA1 : A ≤ 170141183460469231731687303715884105728 := by have := wv_ok hp; unfold I128 at this; rw [hA]; split <;> omega
  have hd0 : 0 ≤ d := by rw [hd]; split <;> omega
  have hd1 : d ≤ 9223372036854775808 := by unfold I64 at hb; rw [hd]; split <;> omega
  have hdb : (if b < 0 then IntKind.wrap .u64 (0 - IntKind.wrap .u64 b) else IntKind.wrap .u64 b) = d := by
    unfold I64 at hb
    rw [hd]
    simp only [cond_true, cond_false, IntKind.wrap_u64]
    split <;> omega
  unfold F75_0
  have ep : (p.1, p.2) = p := rfl
  simp only [cond_true, cond_false, ep, hsz, Option.bind_some]
  have main : ∀ (neg : Bool) (k : Int → Option (Int × Bool)), (∀ x, 0 ≤ x → x ≤ 18446744073709551615 → k x = some (signQ neg x)) → ¬ d ≤ A / 18446744073709551616 →
      ((F89_0 (A / 18446744073709551616, (A % 18446744073709551616, d))).bind fun r =>
        bif decide (r.2 > IntKind.wrap .u64 (d - r.2)) then
          (bif decide (r.2 > 0) then (bif IntKind.wrap .u64 (r.1 + 1) == 0 then some (0, false) else k (IntKind.wrap .u64 (r.1 + 1))) else k r.1)
        else (bif r.2 == IntKind.wrap .u64 (d - r.2) then
          (bif bits .and .u64 r.1 1 == 1 then
            (bif decide (r.2 > 0) then (bif IntKind.wrap .u64 (r.1 + 1) == 0 then some (0, false) else k (IntKind.wrap .u64 (r.1 + 1))) else k r.1)
            else k r.1)
          else k r.1)) = if rhe A d = 18446744073709551616 then some (0, false) else some (signQ neg (rhe A d)) := by
    intro neg k hk hlt
    have hAe2 : A / 18446744073709551616 * 18446744073709551616 + A % 18446744073709551616 = A := by omega
    rw [div64_eq ⟨by omega, by omega⟩ ⟨by omega, by omega⟩ ⟨hd0, by omega⟩ (by omega), hAe2]
    simp only [cond_true, cond_false, Option.bind_some]
    have hdp : 0 < d := by omega
    have h2 := Int.emod_nonneg A (show d ≠ 0 by omega)
    have h3 := Int.emod_lt_of_pos A hdp
    have h4 := Int.ediv_nonneg hA0 hd0
    have h5 : A / d ≤ 18446744073709551615 := by
      apply Int.le_of_lt_add_one
      rw [Int.ediv_lt_iff_lt_mul hdp]
      omega
    have hw : IntKind.wrap .u64 (d - A % d) = d - A % d := wrap_u64 ⟨by omega, by omega⟩
    have hm : bits .and .u64 (A / d) 1 = A / d % 2 := u64_mask 1 (by decide) ⟨h4, h5⟩
    rw [hw, hm]
    unfold rhe
    have up : IntKind.wrap .u64 (A / d + 1) = if A / d + 1 = 18446744073709551616 then 0 else A / d + 1 := by rw [IntKind.wrap_u64]; split <;> omega
    generalize hQ : A / d = Q at *
    generalize hR : A % d = R at *
    have kup : (bif IntKind.wrap .u64 (Q + 1) == 0 then some (0, false) else k (IntKind.wrap .u64 (Q + 1))) = if Q + 1 = 18446744073709551616 then some (0, false) else some (signQ neg (Q + 1)) := by
      rw [up]
      by_cases h : Q + 1 = 18446744073709551616
      · rw [if_pos h, if_pos h]; rfl
      · rw [if_neg h, if_neg h, show (Q + 1 == 0) = false by simp; omega]
        exact hk _ (by omega) (by omega)
    have kno : k Q = if Q = 18446744073709551616 then some (0, false) else some (signQ neg Q) := by rw [hk Q h4 h5, if_neg (by omega)]
    by_cases c1 : R > d - R
    · rw [decide_eq_true c1, if_pos (Or.inl (by omega)), decide_eq_true (show R > 0 by omega)]
      exact kup
    · rw [decide_eq_false c1]
      by_cases c2 : R = d - R
      · rw [show (R == d - R) = true by simpa using c2]
        by_cases c3 : Q % 2 = 1
        · rw [show (Q % 2 == 1) = true by simpa using c3, if_pos (Or.inr ⟨by omega, c3⟩), decide_eq_true (show R > 0 by omega)]
          exact kup
        · rw [show (Q % 2 == 1) = false by simpa using c3, if_neg (show ¬ (2 * R > d ∨ 2 * R = d ∧ Q % 2 = 1) by omega)]
          exact kno
      · rw [show (R == d - R) = false by simpa using c2, if_neg (show ¬ (2 * R > d ∨ 2 * R = d ∧ Q % 2 = 1) by omega)]
        exact kno
  by_cases hbn : b < 0
  · rw [if_pos hbn] at hdb
    simp only [cond_true, cond_false, hbn, decide_true, hdb]
    by_cases hlt : d ≤ A / 18446744073709551616
    · rw [decide_eq_true (show A / 18446744073709551616 ≥ d from hlt), if_pos hlt, cond_true]
    · rw [decide_eq_false (show ¬ A / 18446744073709551616 ≥ d from hlt), if_neg hlt, cond_false]
      by_cases ha : wv p < 0
      · simp only [cond_true, cond_false, ha, decide_true, Bool.not_true, Bool.not_false, bne_self_eq_false]
        refine Eq.trans ?_ (main false (fun x => if x < 9223372036854775808 then some (IntKind.wrap .i64 x, true) else some (0, false)) (fun x h0 h1 => signQ_f h0 h1) hlt)
        simp only [Bool.cond_decide]
      · simp only [cond_true, cond_false, ha, decide_false, Bool.not_true, Bool.not_false]
        refine Eq.trans ?_ (main true (fun x => if x ≤ 9223372036854775808 then some (IntKind.wrap .i64 (IntKind.wrap .u64 (0 - x)), true) else some (0, false)) (fun x h0 h1 => signQ_t h0 h1) hlt)
        simp only [Bool.cond_decide]
  · rw [if_neg hbn] at hdb
    simp only [cond_true, cond_false, hbn, decide_false, hdb]
    by_cases hlt : d ≤ A / 18446744073709551616
    · rw [decide_eq_true (show A / 18446744073709551616 ≥ d from hlt), if_pos hlt, cond_true]
    · rw [decide_eq_false (show ¬ A / 18446744073709551616 ≥ d from hlt), if_neg hlt, cond_false]
      by_cases ha : wv p < 0
      · simp only [cond_true, cond_false, ha, decide_true, Bool.not_true, Bool.not_false]
        refine Eq.trans ?_ (main true (fun x => if x ≤ 9223372036854775808 then some (IntKind.wrap .i64 (IntKind.wrap .u64 (0 - x)), true) else some (0, false)) (fun x h0 h1 => signQ_t h0 h1) hlt)
        simp only [Bool.cond_decide]
      · simp only [cond_true, cond_false, ha, decide_false, Bool.not_true, Bool.not_false, bne_self_eq_false]
        refine Eq.trans ?_ (main false (fun x => if x < 9223372036854775808 then some (IntKind.wrap .i64 x, true) else some (0, false)) (fun x h0 h1 => signQ_f h0 h1) hlt)
        simp only [Bool.cond_decide]
theorem divw_eq {p : Int × Int} {b : Int} (hp : W128 p) (hb : I64 b) : F75_0 (p, b) = some (if b ≠ 0 ∧ I64 (rdiv (wv p) b) then (rdiv (wv p) b, true) else (0, false)) := by
  rw [divw_size hp hb]
  have hA1 := wv_ok hp
  generalize wv p = a at *
  unfold I128 at hA1
  simp only []
  by_cases h0 : b = 0
  · subst h0
    rw [if_pos (by simp; split <;> omega), if_neg (by simp)]
  · have hrd := rdiv_size (a := a) h0
    generalize hA : (if a < 0 then -a else a) = A at *
    generalize hd : (if b < 0 then -b else b) = d at *
    have hd0 : 0 < d := by rw [← hd]; split <;> omega
    have hA0 : 0 ≤ A := by rw [← hA]; split <;> omega
    have hS0 := rhe_nonneg hd0 hA0
    have hS := rhe_bounds (n := A) hd0
    have hd1 : d ≤ 9223372036854775808 := by unfold I64 at hb; rw [← hd]; split <;> omega
    by_cases hlt : d ≤ A / 18446744073709551616
    · rw [if_pos hlt, if_neg]
      rintro ⟨_, hq⟩
      have : 18446744073709551616 ≤ A / d := by
        rw [Int.le_ediv_iff_mul_le hd0]; omega
      unfold I64 at hq
      rw [hrd] at hq
      split at hq <;> omega
    · rw [if_neg hlt]
      generalize rhe A d = S at *
      have e1 : (decide (a < 0) != decide (b < 0)) = !decide ((a < 0) = (b < 0)) := by by_cases h1 : a < 0 <;> by_cases h2 : b < 0 <;> simp [h1, h2]
      rw [e1]
      by_cases hs : (a < 0) = (b < 0)
      · rw [if_pos hs] at hrd
        rw [decide_eq_true hs, hrd]
        unfold signQ I64
        simp only [cond_true, cond_false, Bool.not_true, h0, ne_eq, not_false_eq_true, true_and]
        split
        · rw [if_neg (by omega)]
        · split
          · rw [if_pos (by omega)]
          · rw [if_neg (by omega)]
      · rw [if_neg hs] at hrd
        rw [decide_eq_false hs, hrd]
        unfold signQ I64
        simp only [cond_true, cond_false, Bool.not_false, h0, ne_eq, not_false_eq_true, true_and]
        split
        · rw [if_neg (by omega)]
        · split
          · rw [if_pos (by omega)]
          · rw [if_neg (by omega)]
end Go.Proofs.YtneiaaalbpjgiaaGreat.Ev
