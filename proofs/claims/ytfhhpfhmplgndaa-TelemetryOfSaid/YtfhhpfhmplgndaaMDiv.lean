/- Division of numbers of 128 bits: what the program reckons. -/
import Derived.Test.YtfhhpfhmplgndaaMWide
set_option linter.unusedVariables false
set_option linter.unusedSimpArgs false
namespace Go.Proofs.Ytfhhpfhmplgndaa.Ev
open Go

theorem len64_step {x : Nat} (b : Nat) (h : 2 ^ b ≤ x) : bitLen x = b + bitLen (x / 2 ^ b) := bitLen_shift x b (by have := Nat.div_pos h (Nat.two_pow_pos b); omega)
theorem len_leaf {x k c : Nat} (h : bitLen x = c + k) (hc : c ≤ 56) (hk : (k : Int) ≤ 8) : some (IntKind.wrap .i64 ((c : Int) + IntKind.wrap .i64 (k : Int))) = some ((bitLen x : Nat) : Int) := by
  rw [h, IntKind.wrap_i64, IntKind.wrap_i64]
  exact some_eq (by omega)
/-! ### The two loops -/
theorem pow_split {s : Nat} (hs : s ≤ 64) : (2 : Int) ^ s * 2 ^ (64 - s) = 18446744073709551616 := by
  rw [← Int.pow_add, show s + (64 - s) = 64 by omega]; rfl
/-- The nearest whole number to a / b, for whichever signs (b not 0). -/
def rdiv (a b : Int) : Int := if 0 < b then rhe a b else rhe (-a) (-b)
theorem rdiv_size {a b : Int} (hb : b ≠ 0) : rdiv a b = if (a < 0) = (b < 0) then rhe (if a < 0 then -a else a) (if b < 0 then -b else b) else -rhe (if a < 0 then -a else a) (if b < 0 then -b else b) := by
  unfold rdiv
  by_cases h1 : a < 0 <;> by_cases h2 : b < 0
  · rw [if_neg (by omega), if_pos (by simp [h1, h2]), if_pos h1, if_pos h2]
  · have := rhe_neg (n := -a) (d := b) (by omega)
    rw [if_pos (by omega), if_neg (by simp [h1, h2]), if_pos h1, if_neg h2, ← this, Int.neg_neg]
  · rw [if_neg (by omega), if_neg (by simp [h1, h2]), if_neg h1, if_pos h2, ← rhe_neg (by omega)]
  · rw [if_pos (by omega), if_pos (by simp [h1, h2]), if_neg h1, if_neg h2]
/-- What the last step makes of a quotient's size. -/
def signQ (neg : Bool) (x : Int) : Int × Bool := match neg with
  | true => if x ≤ 9223372036854775808 then (-x, true) else (0, false)
  | false => if x < 9223372036854775808 then (x, true) else (0, false)
theorem signQ_t {x : Int} (h0 : 0 ≤ x) (h1 : x ≤ 18446744073709551615) : (if x ≤ 9223372036854775808 then some (IntKind.wrap .i64 (IntKind.wrap .u64 (0 - x)), true) else some ((0 : Int), false)) = some (signQ true x) := by
  unfold signQ
  simp only [cond_true, cond_false, IntKind.wrap_u64, IntKind.wrap_i64]
  split
  · exact some_eq (pair_eq (by omega) rfl)
  · rfl
theorem signQ_f {x : Int} (h0 : 0 ≤ x) (h1 : x ≤ 18446744073709551615) : (if x < 9223372036854775808 then some (IntKind.wrap .i64 x, true) else some ((0 : Int), false)) = some (signQ false x) := by
  unfold signQ
  simp only [cond_true, cond_false, IntKind.wrap_i64]
  split
  · exact some_eq (pair_eq (by omega) rfl)
  · rfl
end Go.Proofs.Ytfhhpfhmplgndaa.Ev
