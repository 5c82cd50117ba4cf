/- Numbers of 128 bits: signs, comparison, and parts of 2^32: what the program reckons. -/
import Derived.Test.YtfhhpfhmplgndaaMWide
set_option linter.unusedVariables false
set_option linter.unusedSimpArgs false
namespace Go.Proofs.Ytfhhpfhmplgndaa.Ev
open Go

def sign3 (n : Int) : Int := if n = 0 then 0 else if n < 0 then -1 else 1
def cmp3 (a b : Int) : Int := if a < b then -1 else if a > b then 1 else 0
theorem cmpI_eq (a b : Int) : F94_0 (a, b) = some (cmp3 a b) := by
  unfold F94_0 F111_0 cmp3
  simp only [bne_self_eq_false, Option.bind_some, cond_false]
  by_cases h : a < b
  · rw [decide_eq_true h, if_pos h]; rfl
  · rw [decide_eq_false h, if_neg h]
    by_cases h2 : a > b
    · rw [decide_eq_true h2, if_pos h2]; rfl
    · rw [decide_eq_false h2, if_neg h2]; rfl
theorem cmpU_eq (a b : Int) : F95_0 (a, b) = some (cmp3 a b) := by
  unfold F95_0 F112_0 cmp3
  simp only [bne_self_eq_false, Option.bind_some, cond_false]
  by_cases h : a < b
  · rw [decide_eq_true h, if_pos h]; rfl
  · rw [decide_eq_false h, if_neg h]
    by_cases h2 : a > b
    · rw [decide_eq_true h2, if_pos h2]; rfl
    · rw [decide_eq_false h2, if_neg h2]; rfl
theorem or2_eq (a b : Int) : F93_0 [a, b] = some (if a ≠ 0 then a else b) := by
  have step : ∀ n v, K93_0 (n + 1) v = B93_0_3 (K93_0 n) v := fun _ _ => rfl
  show K93_0 (999 + 1) (0, ([a, b], (2, 0))) = _
  rw [step]
  unfold B93_0_3
  have r0 : rdx [a, b] 0 = some a := rfl
  simp only [r0, Option.bind_some, show decide ((0 : Int) < 2) = true from rfl, cond_true]
  by_cases h : a = 0
  · subst h
    simp only [bne_self_eq_false, cond_false, ne_eq, not_true_eq_false, if_false]
    show K93_0 (998 + 1) (0, ([0, b], (2, 1))) = _
    rw [step]
    unfold B93_0_3
    have r1 : rdx [0, b] 1 = some b := rfl
    simp only [r1, Option.bind_some, show decide ((1 : Int) < 2) = true from rfl, cond_true]
    by_cases h2 : b = 0
    · subst h2
      simp only [bne_self_eq_false, cond_false]
      show K93_0 (997 + 1) (0, ([0, 0], (2, 2))) = _
      rw [step]
      rfl
    · rw [show (b != 0) = true by simpa using h2]; rfl
  · rw [show (a != 0) = true by simpa using h, if_pos h]; rfl
theorem cmpw_eq {p q : Int × Int} (hp : W128 p) (hq : W128 q) : F63_0 (p, q) = some (cmp3 (wv p) (wv q)) := by
  obtain ⟨hi, lo⟩ := p
  obtain ⟨hi', lo'⟩ := q
  obtain ⟨⟨a1, a2⟩, b1, b2⟩ := hp
  obtain ⟨⟨c1, c2⟩, d1, d2⟩ := hq
  simp only [] at *
  unfold F63_0 wv
  simp only [cmpI_eq, cmpU_eq, Option.bind_some, or2_eq]
  unfold cmp3
  refine some_eq ?_
  obtain ⟨A, hA⟩ : ∃ A, A = hi * 18446744073709551616 + lo := ⟨_, rfl⟩
  obtain ⟨B, hB⟩ : ∃ B, B = hi' * 18446744073709551616 + lo' := ⟨_, rfl⟩
  rw [← hA, ← hB]
  by_cases h1 : hi < hi'
  · rw [if_pos h1, if_pos (by decide), if_pos (show A < B by omega)]
  · rw [if_neg h1]
    by_cases h2 : hi > hi'
    · rw [if_pos h2, if_pos (by decide), if_neg (show ¬ A < B by omega), if_pos (show A > B by omega)]
    · rw [if_neg h2, if_neg (by decide)]
      by_cases h3 : lo < lo'
      · rw [if_pos h3, if_pos (show A < B by omega)]
      · rw [if_neg h3, if_neg (show ¬ A < B by omega)]
        by_cases h4 : lo > lo'
        · rw [if_pos h4, if_pos (show A > B by omega)]
        · rw [if_neg h4, if_neg (show ¬ A > B by omega)]
theorem belowz_eq {p q : Int × Int} (hp : U64 p.1 ∧ U64 p.2) (hq : U64 q.1 ∧ U64 q.2) : F64_0 (p, q) = some (decide (wv p < wv q)) := by
  obtain ⟨hi, lo⟩ := p
  obtain ⟨hi', lo'⟩ := q
  obtain ⟨⟨a1, a2⟩, b1, b2⟩ := hp
  obtain ⟨⟨c1, c2⟩, d1, d2⟩ := hq
  simp only [] at *
  unfold F64_0 wv
  simp only []
  by_cases h1 : hi < hi'
  · rw [decide_eq_true h1, decide_eq_true (show hi * 18446744073709551616 + lo < hi' * 18446744073709551616 + lo' by omega)]; rfl
  · rw [decide_eq_false h1, cond_false]
    by_cases h2 : hi = hi'
    · subst h2
      rw [beq_self_eq_true, cond_true]
      exact some_eq (decide_eq_decide.2 (by omega))
    · rw [show (hi == hi') = false by simpa using h2, cond_false, decide_eq_false (show ¬ hi * 18446744073709551616 + lo < hi' * 18446744073709551616 + lo' by omega)]
/-- A part of 2^32. -/
def partS (a b : Int) : Int := if a < 0 ∨ b ≤ a then 0 else a * 4294967296 / b
theorem partS_in (a b : Int) : 0 ≤ partS a b ∧ partS a b ≤ 4294967295 := by
  unfold partS
  split
  · decide
  · refine ⟨Int.ediv_nonneg (by omega) (by omega), ?_⟩
    apply Int.le_of_lt_add_one
    rw [Int.ediv_lt_iff_lt_mul (by omega)]
    omega
theorem pow2_succ (i : Nat) : (2 : Int) ^ (i + 1) = 2 ^ i * 2 := Int.pow_succ _ _
theorem part_loop {b : Int} {hb lb : Int} (hB : U64 hb ∧ U64 lb) (eb : wv (hb, lb) = b) (b0 : 0 < b) (b1 : b ≤ 170141183460469231731687303715884105727) {a : Int} (a0 : 0 ≤ a) (a1 : a < b) : ∀ (k i n : Nat) (q r : Int), k + i = 32 → k < n → 0 ≤ r → r < b → a * 2 ^ i = q * b + r → 0 ≤ q → q < 2 ^ i →
    K29_0 n ((q, (i : Int)), ((hb, lb), wd r)) = some (a * 4294967296 / b) := by
  intro k
  induction k with
  | zero =>
    intro i n q r hi hn r0 r1 he q0 q1
    obtain ⟨n, rfl⟩ : ∃ m, n = m + 1 := ⟨n - 1, by omega⟩
    have hi' : i = 32 := by omega
    subst hi'
    simp only [K29_0, B29_0_6, show decide (((32 : Nat) : Int) < 32) = false by decide, cond_false]
    obtain ⟨e1, _⟩ := ediv_of (n := a * 4294967296) (q := q) (r := r) b0 (by rw [Int.mul_comm b q]; exact he) r0 r1
    rw [e1]
  | succ k ih =>
    intro i n q r hi hn r0 r1 he q0 q1
    obtain ⟨n, rfl⟩ : ∃ m, n = m + 1 := ⟨n - 1, by omega⟩
    have hq32 : (2 : Int) ^ (i + 1) ≤ 4294967296 := by
      have h2 : ((2 ^ (i + 1) : Nat) : Int) ≤ ((2 ^ 32 : Nat) : Int) := Int.ofNat_le.2 (Nat.pow_le_pow_right (by decide) (by omega))
      rw [Int.natCast_pow] at h2
      exact h2
    have hp := pow2_succ i
    have hr : U64 (r / 18446744073709551616) ∧ U64 (r % 18446744073709551616) := ⟨⟨by omega, by omega⟩, ⟨by omega, by omega⟩⟩
    have e1 : bits .or .u64 (IntKind.wrap .u64 (r / 18446744073709551616 * 2 ^ 1)) (r % 18446744073709551616 / 9223372036854775808) = 2 * r / 18446744073709551616 := by
      rw [IntKind.wrap_u64, u64_join 1 ⟨by omega, by omega⟩ (by omega) (by omega) (by omega) ⟨by omega, by omega⟩]
      omega
    have e2 : IntKind.wrap .u64 (r % 18446744073709551616 * 2 ^ 1) = 2 * r % 18446744073709551616 := by rw [IntKind.wrap_u64]; omega
    have e3 : IntKind.wrap .u32 (q * 2 ^ 1) = 2 * q := by rw [IntKind.wrap_u32]; omega
    have e4 : bits .or .u32 (2 * q) 1 = 2 * q + 1 := bits_join .u32 32 (by decide) (fun n h0 h1 => by rw [IntKind.wrap_u32]; omega) 1 _ _ (by omega) (by omega) (by omega) (by decide) (by decide) (by decide)
    have e5 : IntKind.wrap .i64 ((i : Int) + 1) = ((i + 1 : Nat) : Int) := by rw [IntKind.wrap_i64]; omega
    have hw : wv (2 * r / 18446744073709551616, 2 * r % 18446744073709551616) = 2 * r := wv_wd (2 * r)
    have u1 : U64 (2 * r / 18446744073709551616) := ⟨by omega, by omega⟩
    have u2 : U64 (2 * r % 18446744073709551616) := ⟨by omega, by omega⟩
    have he2 : a * 2 ^ (i + 1) = 2 * q * b + 2 * r := by rw [hp, ← Int.mul_assoc, he]; grind
    simp only [K29_0, B29_0_6, wd, show decide ((i : Int) < 32) = true from decide_eq_true (by omega), cond_true, fdiv63, e1, e2, e3, e4, e5]
    rw [belowz_eq ⟨u1, u2⟩ hB, hw, eb]
    simp only [Option.bind_some]
    by_cases h : 2 * r < b
    · rw [decide_eq_true h, Bool.not_true, cond_false]
      exact ih (i + 1) n (2 * q) (2 * r) (by omega) (by omega) (by omega) h he2 (by omega) (by omega)
    · rw [decide_eq_false h, Bool.not_false, cond_true, sub64_eq u2 hB.2 (by omega)]
      simp only [Option.bind_some]
      rw [sub64_eq u1 hB.1 (by split <;> omega)]
      simp only [Option.bind_some]
      have h9 := ih (i + 1) n (2 * q + 1) (2 * r - b) (by omega) (by omega) (by omega) (by omega) (by rw [he2]; grind) (by omega) (by omega)
      unfold wd at h9
      rw [← h9]
      unfold U64 at hB
      unfold wv at eb
      simp only [] at eb
      congr 3
      exact pair_eq (by split <;> omega) (by omega)
theorem partw_eq {p q : Int × Int} (hp : W128 p) (hq : W128 q) : F29_0 (p, q) = some (partS (wv p) (wv q)) := by
  show E29_0 (K29_0 1000) (p, q) = _
  unfold E29_0 partS
  have ha := wv_ok hp
  have hb := wv_ok hq
  simp only [cmpw_eq hp hq, Option.bind_some]
  obtain ⟨hi, lo⟩ := p
  obtain ⟨hi', lo'⟩ := q
  obtain ⟨⟨a1, a2⟩, b1, b2⟩ := hp
  obtain ⟨⟨c1, c2⟩, d1, d2⟩ := hq
  simp only [] at *
  have eA : wv (hi, lo) = hi * 18446744073709551616 + lo := rfl
  have eB : wv (hi', lo') = hi' * 18446744073709551616 + lo' := rfl
  by_cases h1 : hi < 0
  · rw [decide_eq_true h1, cond_true, if_pos (by omega)]
  · rw [decide_eq_false h1, cond_false]
    by_cases h2 : wv (hi', lo') ≤ wv (hi, lo)
    · rw [decide_eq_true (by unfold cmp3; split <;> (try split) <;> omega), cond_true, if_pos (.inr h2)]
    · rw [decide_eq_false (by unfold cmp3; rw [if_pos (by omega)]; decide), cond_false, if_neg (by omega)]
      rw [IntKind.wrap_u64, IntKind.wrap_u64, show hi % 18446744073709551616 = hi by omega, show hi' % 18446744073709551616 = hi' by omega]
      unfold I128 at hb
      have := part_loop (hb := hi') (lb := lo') (b := wv (hi', lo')) (a := wv (hi, lo)) ⟨⟨by omega, by omega⟩, ⟨d1, d2⟩⟩ rfl (by omega) (by omega) (by omega) (by omega) 32 0 1000 0 (wv (hi, lo)) (by omega) (by omega) (by omega) (by omega) (by rw [Int.pow_zero]; omega) (by omega) (by decide)
      rw [wd_wv (p := (hi, lo)) ⟨⟨a1, a2⟩, b1, b2⟩] at this
      exact this
end Go.Proofs.Ytfhhpfhmplgndaa.Ev
