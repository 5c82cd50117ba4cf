/- Numbers of 32 bits behind the point: what the document's answer reckons. -/
import Derived.Test.YtneiaaalbpjgiaaGreatXFns
import Derived.Test.YtneiaaalbpjgiaaGreatMNum
set_option linter.unusedVariables false
set_option linter.unusedSimpArgs false
namespace Go.Proofs.YtneiaaalbpjgiaaGreat.Ev
open Go

def sz (a : Int) : Int := if a < 0 then -a else a
theorem sz_le {a : Int} (ha : I64 a) : 0 ≤ sz a ∧ sz a ≤ 9223372036854775808 := by unfold I64 at ha; unfold sz; split <;> omega
theorem size_eq {a : Int} (ha : I64 a) : F78_0 a = some (sz a) := by
  unfold I64 at ha
  unfold F78_0 sz
  simp only [IntKind.wrap_u64, IntKind.wrap_i64]
  by_cases h : a < 0
  · rw [decide_eq_true h, cond_true, if_pos h]; exact some_eq (by omega)
  · rw [decide_eq_false h, cond_false, if_neg h]; exact some_eq (by omega)
def bndr (neg : Bool) : Int := bif neg then -9223372036854775808 else 9223372036854775807
theorem rbound_eq (neg o : Bool) : F77_0 (neg, o) = some (bndr neg, true) := by cases neg <;> rfl
/-- A size with a sign. -/
def sgn (neg : Bool) (n : Int) : Int := bif neg then -n else n
theorem signed_eq {n : Int} (hn : 0 ≤ n) (neg o : Bool) : F79_0 ((neg, n), o) = some (sat (sgn neg n), o || ovf (sgn neg n)) := by
  unfold F79_0
  cases neg
  · simp only [cond_true, cond_false, IntKind.wrap_i64, rbound_eq, Option.bind_some, sgn, bndr]
    by_cases h : n > 9223372036854775807
    · rw [decide_eq_true h, cond_true, ovf_out (by unfold I64; omega), Bool.or_true]
      unfold sat; rw [if_pos h]
    · rw [decide_eq_false h, cond_false, ovf_in (by unfold I64; omega), Bool.or_false]
      unfold sat; rw [if_neg h, if_neg (by omega)]
      exact some_eq (pair_eq (by omega) rfl)
  · simp only [cond_true, cond_false, IntKind.wrap_i64, rbound_eq, Option.bind_some, sgn, bndr]
    by_cases h0 : n = 9223372036854775808
    · subst h0
      rw [ovf_in (by decide), Bool.or_false]; rfl
    · rw [show (n == 9223372036854775808) = false by simpa using h0, cond_false]
      by_cases h : n > 9223372036854775807
      · rw [decide_eq_true h, cond_true, ovf_out (by unfold I64; omega), Bool.or_true]
        unfold sat; rw [if_neg (by omega), if_pos (by omega)]
      · rw [decide_eq_false h, cond_false, ovf_in (by unfold I64; omega), Bool.or_false]
        unfold sat; rw [if_neg (by omega), if_neg (by omega)]
        exact some_eq (pair_eq (by omega) rfl)
theorem big_bnd {n : Int} (hn : 9223372036854775808 < n) (neg o : Bool) : some (bndr neg, true) = some (sat (sgn neg n), o || ovf (sgn neg n)) := by
  cases neg
  · unfold bndr sgn; simp only [cond_false]
    rw [ovf_out (by unfold I64; omega), Bool.or_true]; unfold sat; rw [if_pos (by omega)]
  · unfold bndr sgn; simp only [cond_true]
    rw [ovf_out (by unfold I64; omega), Bool.or_true]; unfold sat; rw [if_neg (by omega), if_pos (by omega)]
theorem sgn_mulR {a b : Int} : sgn (!(decide (a < 0) == decide (b < 0))) (rhe (sz a * sz b) 4294967296) = mulR a b := by
  unfold mulR sz
  by_cases h1 : a < 0 <;> by_cases h2 : b < 0 <;> simp only [h1, h2, decide_true, decide_false, b_tt, b_ff, b_tf, b_ft, Bool.not_true, Bool.not_false, if_true, if_false, sgn, cond_true, cond_false]
  · rw [Int.neg_mul_neg]
  · rw [Int.neg_mul, rhe_neg (by decide), Int.neg_neg]
  · rw [Int.mul_neg, rhe_neg (by decide), Int.neg_neg]
theorem sgn_divR {a b : Int} (hb : b ≠ 0) : sgn (!(decide (a < 0) == decide (b < 0))) (rhe (sz a * 4294967296) (sz b)) = divR a b := by
  unfold divR sz
  by_cases h1 : a < 0 <;> by_cases h2 : b < 0 <;> simp only [h1, h2, decide_true, decide_false, b_tt, b_ff, b_tf, b_ft, Bool.not_true, Bool.not_false, if_true, if_false, sgn, cond_true, cond_false]
  · rw [if_neg (by omega), Int.neg_mul]
  · rw [if_pos (by omega), Int.neg_mul, rhe_neg (by omega), Int.neg_neg]
  · rw [if_neg (by omega), ← rhe_neg (by omega)]
  · rw [if_pos (by omega)]
theorem rmul_eq {a b : Int} (ha : I64 a) (hb : I64 b) (o : Bool) : F55_0 ((a, b), o) = some (mulS a b, o || ovf (mulR a b)) := by
  have hx := sz_le ha
  have hy := sz_le hb
  have hmr := sgn_mulR (a := a) (b := b)
  unfold mulS
  rw [← hmr]
  unfold F55_0
  simp only [size_eq ha, size_eq hb, Option.bind_some, tdiv_nn hx.1, tdiv_nn hy.1, tmod_nn hx.1, tmod_nn hy.1, rbound_eq]
  generalize (!(decide (a < 0) == decide (b < 0))) = neg
  generalize sz a = x at *
  generalize sz b = y at *
  clear hmr ha hb
  have ex : x = x / 4294967296 * 4294967296 + x % 4294967296 := by omega
  have ey : y = y / 4294967296 * 4294967296 + y % 4294967296 := by omega
  have hprod : x * y = x / 4294967296 * (y / 4294967296) * 18446744073709551616 + (x / 4294967296 * (y % 4294967296) + x % 4294967296 * (y / 4294967296)) * 4294967296 + x % 4294967296 * (y % 4294967296) := by
    conv => lhs; rw [ex, ey]
    exact split_mul _ _ _ _
  rw [wrap_u64 (n := x / 4294967296) ⟨by omega, by omega⟩, wrap_u64 (n := y / 4294967296) ⟨by omega, by omega⟩]
  have pA := prod_le (a := x / 4294967296) (b := y / 4294967296) (A := 2147483648) (B := 2147483648) (by omega) (by omega) (by omega) (by omega)
  have pB := prod_le (a := x / 4294967296) (b := y % 4294967296) (A := 2147483648) (B := 4294967295) (by omega) (by omega) (by omega) (by omega)
  have pD := prod_le (a := x % 4294967296) (b := y / 4294967296) (A := 4294967295) (B := 2147483648) (by omega) (by omega) (by omega) (by omega)
  have pC := prod_le (a := x % 4294967296) (b := y % 4294967296) (A := 4294967295) (B := 4294967295) (by omega) (by omega) (by omega) (by omega)
  rw [hprod]
  clear hprod ex ey hx hy
  generalize x / 4294967296 * (y / 4294967296) = A at *
  generalize x / 4294967296 * (y % 4294967296) = B at *
  generalize x % 4294967296 * (y / 4294967296) = D at *
  generalize x % 4294967296 * (y % 4294967296) = C at *
  rw [wrap_u64 (n := A) ⟨by omega, by omega⟩, wrap_u64 (n := B) ⟨by omega, by omega⟩, wrap_u64 (n := D) ⟨by omega, by omega⟩, wrap_u64 (n := C) ⟨by omega, by omega⟩]
  rw [tdiv_nn (a := C) (by omega), tmod_nn (a := C) (by omega), wrap_u64 (n := C / 4294967296) ⟨by omega, by omega⟩]
  have hq : (A * 18446744073709551616 + (B + D) * 4294967296 + C) / 4294967296 = A * 4294967296 + B + D + C / 4294967296 := by omega
  have hr : (A * 18446744073709551616 + (B + D) * 4294967296 + C) % 4294967296 = C % 4294967296 := by omega
  unfold rhe
  rw [hq, hr]
  by_cases h1 : A ≥ 4294967296
  · rw [decide_eq_true h1, cond_true]
    exact big_bnd (by split <;> omega) _ _
  · rw [decide_eq_false h1, cond_false, wrap_u64 (n := A * 4294967296) ⟨by omega, by omega⟩]
    have add : ∀ p q : Int, 0 ≤ p → p ≤ 18446744073709551615 → 0 ≤ q → q ≤ 18446744073709551615 → (p + q ≤ 18446744073709551615 ∧ IntKind.wrap .u64 (p + q) = p + q ∧ decide (IntKind.wrap .u64 (p + q) < p) = false) ∨ (18446744073709551615 < p + q ∧ decide (IntKind.wrap .u64 (p + q) < p) = true) := by
      intro p q a1 a2 a3 a4
      rw [IntKind.wrap_u64]
      by_cases h : p + q ≤ 18446744073709551615
      · exact .inl ⟨h, by omega, decide_eq_false (by omega)⟩
      · exact .inr ⟨by omega, decide_eq_true (by omega)⟩
    rcases add (A * 4294967296) B (by omega) (by omega) (by omega) (by omega) with ⟨l1, e1, d1⟩ | ⟨l1, d1⟩
    · rw [d1, cond_false, e1]
      rcases add (A * 4294967296 + B) D (by omega) (by omega) (by omega) (by omega) with ⟨l2, e2, d2⟩ | ⟨l2, d2⟩
      · rw [d2, cond_false, e2]
        rcases add (A * 4294967296 + B + D) (C / 4294967296) (by omega) (by omega) (by omega) (by omega) with ⟨l3, e3, d3⟩ | ⟨l3, d3⟩
        · rw [d3, cond_false, e3, tmod_nn (a := A * 4294967296 + B + D + C / 4294967296) (by omega)]
          generalize hT : A * 4294967296 + B + D + C / 4294967296 = T at *
          have hT0 : 0 ≤ T := by omega
          have up := add T 1 hT0 l3 (by omega) (by omega)
          have n0 := add T 0 hT0 l3 (by omega) (by omega)
          have e0 : IntKind.wrap .u64 (T + 0) = T := by rw [wrap_u64 (n := T + 0) ⟨by omega, by omega⟩]; omega
          have d0 : decide (T < T) = false := decide_eq_false (by omega)
          clear pA pB pC pD hq h1 l1 e1 d1 l2 e2 d2 e3 d3 add
          by_cases c1 : C % 4294967296 > 2147483648
          · rw [decide_eq_true c1, cond_true, if_pos (Or.inl (by omega))]
            rcases up with ⟨l4, e4, d4⟩ | ⟨l4, d4⟩
            · rw [d4, cond_false, e4]
              simp only [signed_eq (show 0 ≤ T + 1 by omega), Option.bind_some]
            · rw [d4, cond_true]
              exact big_bnd (by omega) _ _
          · rw [decide_eq_false c1, cond_false]
            by_cases c2 : C % 4294967296 = 2147483648
            · rw [show (C % 4294967296 == 2147483648) = true by simpa using c2, cond_true]
              by_cases c3 : T % 2 = 1
              · rw [show (T % 2 == 1) = true by simpa using c3, cond_true, if_pos (Or.inr ⟨by omega, c3⟩)]
                rcases up with ⟨l4, e4, d4⟩ | ⟨l4, d4⟩
                · rw [d4, cond_false, e4]
                  simp only [signed_eq (show 0 ≤ T + 1 by omega), Option.bind_some]
                · rw [d4, cond_true]
                  exact big_bnd (by omega) _ _
              · rw [show (T % 2 == 1) = false by simpa using c3, cond_false, if_neg (by omega), e0, d0, cond_false]
                simp only [signed_eq hT0, Option.bind_some]
            · rw [show (C % 4294967296 == 2147483648) = false by simpa using c2, cond_false, if_neg (by omega), e0, d0, cond_false]
              simp only [signed_eq hT0, Option.bind_some]
        · rw [d3, cond_true]
          exact big_bnd (by split <;> omega) _ _
      · rw [d2, cond_true]
        exact big_bnd (by split <;> omega) _ _
    · rw [d1, cond_true]
      exact big_bnd (by split <;> omega) _ _
/-! ### Bit by bit -/
theorem step_bits {x : Int} (hx : 0 ≤ x) (k : Nat) : x * 4294967296 / 2 ^ k = 2 * (x * 4294967296 / 2 ^ (k + 1)) + x * 4294967296 / 2 ^ k % 2 := by
  have e : (2 : Int) ^ (k + 1) = 2 ^ k * 2 := Int.pow_succ _ _
  rw [e, ← Int.ediv_ediv_of_nonneg (Int.le_of_lt (Int.pow_pos (by decide)))]
  omega
theorem bit_hi {x : Int} (k : Nat) (hk : 32 ≤ k) : x * 4294967296 / 2 ^ k = x / 2 ^ (k - 32) := by
  have e : (2 : Int) ^ k = 2 ^ (k - 32) * 4294967296 := by rw [show (4294967296 : Int) = 2 ^ 32 from rfl, ← Int.pow_add, show k - 32 + 32 = k by omega]
  rw [e, Int.mul_ediv_mul_of_pos_left _ _ (by decide)]
theorem bit_lo {x : Int} (k : Nat) (hk : k < 32) : x * 4294967296 / 2 ^ k % 2 = 0 := by
  have e : (4294967296 : Int) = 2 ^ (31 - k) * 2 * 2 ^ k := by rw [← Int.pow_succ, ← Int.pow_add, show 31 - k + 1 + k = 32 by omega]; rfl
  rw [e, ← Int.mul_assoc, Int.mul_ediv_cancel _ (Int.ne_of_gt (Int.pow_pos (by decide))), ← Int.mul_assoc]
  omega
/-- What the division of sizes comes to. -/
def overR (x y : Int) : Int × Bool := if x * 4294967296 / y > 18446744073709551615 ∨ rhe (x * 4294967296) y = 18446744073709551616 then (0, false) else (rhe (x * 4294967296) y, true)
theorem over_loop {x y : Int} (hx0 : 0 ≤ x) (hx : x ≤ 9223372036854775808) (hy0 : 0 < y) (hy : y ≤ 9223372036854775808) : ∀ (k n : Nat) (q r : Int), k ≤ 96 → k < n → 0 ≤ q → q ≤ 18446744073709551615 → 0 ≤ r → r < y → x * 4294967296 / 2 ^ k = q * y + r →
    K80_0 n (x, (y, (q, (r, (k : Int) - 1)))) = some (overR x y) := by
  intro k
  induction k with
  | zero =>
    intro n q r hk hn hq0 hq hr0 hr hinv
    obtain ⟨n, rfl⟩ : ∃ m, n = m + 1 := ⟨n - 1, by omega⟩
    simp only [Int.pow_zero, Int.ediv_one] at hinv
    obtain ⟨e1, e2⟩ := ediv_of (n := x * 4294967296) (q := q) (r := r) hy0 (by rw [Int.mul_comm y]; exact hinv) hr0 hr
    have hw : IntKind.wrap .u64 (y - r) = y - r := wrap_u64 ⟨by omega, by omega⟩
    have hw1 : IntKind.wrap .u64 (q + 1) = if q = 18446744073709551615 then 0 else q + 1 := by rw [IntKind.wrap_u64]; split <;> omega
    simp only [K80_0, B80_0_4, show decide (((0 : Nat) : Int) - 1 ≥ 0) = false by decide, cond_false, hw, tmod_nn hq0]
    unfold overR rhe
    rw [e1, e2]
    have fin : (bif IntKind.wrap .u64 (q + 1) == 0 then some ((0 : Int), false) else some (IntKind.wrap .u64 (q + 1), true)) = some (if q > 18446744073709551615 ∨ q + 1 = 18446744073709551616 then (0, false) else (q + 1, true)) := by
      rw [hw1]
      by_cases h : q = 18446744073709551615
      · rw [if_pos h, if_pos (by omega)]; rfl
      · rw [if_neg h, if_neg (by omega), show (q + 1 == 0) = false by simp; omega]; rfl
    by_cases c1 : r > y - r
    · rw [decide_eq_true c1, cond_true, if_pos (show 2 * r > y ∨ 2 * r = y ∧ q % 2 = 1 from .inl (by omega))]; exact fin
    · rw [decide_eq_false c1, cond_false]
      by_cases c2 : r = y - r
      · rw [show (r == y - r) = true by simpa using c2, cond_true]
        by_cases c3 : q % 2 = 1
        · rw [show (q % 2 == 1) = true by simpa using c3, cond_true, if_pos (show 2 * r > y ∨ 2 * r = y ∧ q % 2 = 1 from .inr ⟨by omega, c3⟩)]; exact fin
        · rw [show (q % 2 == 1) = false by simpa using c3, cond_false, if_neg (show ¬ (2 * r > y ∨ 2 * r = y ∧ q % 2 = 1) by omega), if_neg (by omega)]
      · rw [show (r == y - r) = false by simpa using c2, cond_false, if_neg (show ¬ (2 * r > y ∨ 2 * r = y ∧ q % 2 = 1) by omega), if_neg (by omega)]
  | succ k ih =>
    intro n q r hk hn hq0 hq hr0 hr hinv
    obtain ⟨n, rfl⟩ : ∃ m, n = m + 1 := ⟨n - 1, by omega⟩
    have hbit := step_bits hx0 k
    rw [hinv] at hbit
    have hb01 : 0 ≤ x * 4294967296 / 2 ^ k % 2 ∧ x * 4294967296 / 2 ^ k % 2 ≤ 1 := by omega
    -- too great
    have great : q ≥ 9223372036854775808 → some ((0 : Int), false) = some (overR x y) := by
      intro hq
      unfold overR
      rw [if_pos]
      left
      have h1 : 18446744073709551616 ≤ x * 4294967296 / y := by
        rw [Int.le_ediv_iff_mul_le hy0]
        have h2 : x * 4294967296 / 2 ^ (k + 1) * 2 ^ (k + 1) ≤ x * 4294967296 := Int.ediv_mul_le _ (Int.ne_of_gt (Int.pow_pos (by decide)))
        rw [hinv] at h2
        have h3 : 9223372036854775808 * y ≤ q * y := Int.mul_le_mul_of_nonneg_right hq (by omega)
        have h4 : (2 : Int) ≤ 2 ^ (k + 1) := by
          rw [Int.pow_succ]
          have : (0 : Int) < 2 ^ k := Int.pow_pos (by decide)
          omega
        have h5 : (q * y + r) * 2 ≤ (q * y + r) * 2 ^ (k + 1) := Int.mul_le_mul_of_nonneg_left h4 (by omega)
        omega
      omega
    -- one bit more
    have go : ∀ b : Int, b = x * 4294967296 / 2 ^ k % 2 → q < 9223372036854775808 →
        (bif decide (IntKind.wrap .u64 (IntKind.wrap .u64 (2 * r) + b) ≥ y) then
          K80_0 n (x, (y, (IntKind.wrap .u64 (IntKind.wrap .u64 (2 * q) + 1), (IntKind.wrap .u64 (IntKind.wrap .u64 (IntKind.wrap .u64 (2 * r) + b) - y), IntKind.wrap .i64 (((k + 1 : Nat) : Int) - 1 - 1)))))
        else K80_0 n (x, (y, (IntKind.wrap .u64 (2 * q), (IntKind.wrap .u64 (IntKind.wrap .u64 (2 * r) + b), IntKind.wrap .i64 (((k + 1 : Nat) : Int) - 1 - 1)))))) = some (overR x y) := by
      intro b hb hlt
      rw [← hb] at hbit hb01
      have ei : IntKind.wrap .i64 (((k + 1 : Nat) : Int) - 1 - 1) = (k : Int) - 1 := by rw [IntKind.wrap_i64]; omega
      have e2q : IntKind.wrap .u64 (2 * q) = 2 * q := wrap_u64 ⟨by omega, by omega⟩
      have e2r : IntKind.wrap .u64 (2 * r) = 2 * r := wrap_u64 ⟨by omega, by omega⟩
      have e2rb : IntKind.wrap .u64 (2 * r + b) = 2 * r + b := wrap_u64 ⟨by omega, by omega⟩
      have e2q1 : IntKind.wrap .u64 (2 * q + 1) = 2 * q + 1 := wrap_u64 ⟨by omega, by omega⟩
      rw [ei, e2q, e2r, e2rb, e2q1]
      by_cases h : 2 * r + b ≥ y
      · rw [decide_eq_true h, cond_true, wrap_u64 (n := 2 * r + b - y) ⟨by omega, by omega⟩]
        refine ih n _ _ (by omega) (by omega) (by omega) (by omega) (by omega) (by omega) ?_
        rw [hbit]; grind
      · rw [decide_eq_false h, cond_false]
        refine ih n _ _ (by omega) (by omega) (by omega) (by omega) (by omega) (by omega) ?_
        rw [hbit]; grind
    have ek : (((k + 1 : Nat) : Int) - 1) = (k : Int) := by omega
    simp only [K80_0, B80_0_4, show decide (((k + 1 : Nat) : Int) - 1 ≥ 0) = true from decide_eq_true (by omega), cond_true]
    by_cases h32 : 32 ≤ k
    · have e1 : IntKind.wrap .u64 (IntKind.wrap .i64 (((k + 1 : Nat) : Int) - 1 - 32)) = ((k - 32 : Nat) : Int) := by
        rw [wrap_i64 ⟨by omega, by omega⟩, wrap_u64 ⟨by omega, by omega⟩]; omega
      have e2 : Int.fdiv x (2 ^ min (((k - 32 : Nat) : Int)).toNat 64) = x * 4294967296 / 2 ^ k := by
        rw [Int.toNat_natCast, Nat.min_eq_left (by omega), fdiv_pow, bit_hi k h32]
      have h0 : 0 ≤ x * 4294967296 / 2 ^ k := Int.ediv_nonneg (by omega) (Int.le_of_lt (Int.pow_pos (by decide)))
      simp only [show decide (((k + 1 : Nat) : Int) - 1 ≥ 32) = true by simp; omega, cond_true, e1, chk, show decide ((0 : Int) ≤ ((k - 32 : Nat) : Int)) = true by simp, Option.bind_some, e2, tmod_nn h0]
      by_cases hq2 : q ≥ 9223372036854775808
      · rw [decide_eq_true hq2, cond_true]; exact great hq2
      · rw [decide_eq_false hq2, cond_false]; exact go _ rfl (by omega)
    · simp only [show decide (((k + 1 : Nat) : Int) - 1 ≥ 32) = false by simp; omega, cond_false]
      by_cases hq2 : q ≥ 9223372036854775808
      · rw [decide_eq_true hq2, cond_true]; exact great hq2
      · rw [decide_eq_false hq2, cond_false]; exact go 0 (bit_lo k (by omega)).symm (by omega)
theorem over_eq {x y : Int} (hx0 : 0 ≤ x) (hx : x ≤ 9223372036854775808) (hy0 : 0 < y) (hy : y ≤ 9223372036854775808) : F80_0 (x, y) = some (overR x y) := by
  show E80_0 (K80_0 1000) (x, y) = _
  unfold E80_0
  have := over_loop hx0 hx hy0 hy 96 1000 0 0 (by omega) (by omega) (by omega) (by omega) (by omega) hy0 (by
    rw [Int.zero_mul, Int.zero_add]
    exact Int.ediv_eq_zero_of_lt (by omega) (by rw [show (2 : Int) ^ 96 = 79228162514264337593543950336 from rfl]; omega))
  exact this
theorem rdiv_eq {a b : Int} (ha : I64 a) (hb : I64 b) (o : Bool) : F58_0 ((a, b), o) = some (divS a b, o || divO a b) := by
  have hx := sz_le ha
  have hy := sz_le hb
  unfold F58_0 divS divO
  simp only [rbound_eq, Option.bind_some]
  by_cases h0 : b = 0
  · subst h0
    simp only [beq_self_eq_true, cond_true, if_true, decide_true, Bool.true_or, Bool.or_true]
    by_cases h : a = 0
    · subst h; rfl
    · rw [show (a == 0) = false by simpa using h, cond_false, if_neg h]
      unfold bndr
      by_cases h2 : a < 0
      · rw [decide_eq_true h2, if_pos h2]; rfl
      · rw [decide_eq_false h2, if_neg h2]; rfl
  · rw [show (b == 0) = false by simpa using h0, cond_false, if_neg h0, decide_eq_false h0, Bool.false_or]
    have hy1 : 0 < sz b := by unfold sz; split <;> omega
    simp only [size_eq ha, size_eq hb, Option.bind_some, over_eq hx.1 hx.2 hy1 hy.2]
    rw [← sgn_divR h0]
    have hS := rhe_bounds (n := sz a * 4294967296) hy1
    have hS0 := rhe_nonneg (n := sz a * 4294967296) hy1 (by omega)
    unfold overR
    by_cases h : sz a * 4294967296 / sz b > 18446744073709551615 ∨ rhe (sz a * 4294967296) (sz b) = 18446744073709551616
    · rw [if_pos h]
      simp only [Bool.not_false, cond_true]
      exact big_bnd (by omega) _ _
    · rw [if_neg h]
      simp only [Bool.not_true, cond_false, signed_eq hS0, Option.bind_some]
end Go.Proofs.YtneiaaalbpjgiaaGreat.Ev
