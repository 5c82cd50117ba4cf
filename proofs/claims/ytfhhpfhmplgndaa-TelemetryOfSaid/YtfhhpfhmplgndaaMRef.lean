/- Numbers of 32 bits behind the point: what the document's answer reckons. -/
import Derived.Test.YtfhhpfhmplgndaaXFns
import Derived.Test.YtfhhpfhmplgndaaMNum
set_option linter.unusedVariables false
set_option linter.unusedSimpArgs false
namespace Go.Proofs.Ytfhhpfhmplgndaa.Ev
open Go

def sz (a : Int) : Int := if a < 0 then -a else a
theorem sz_le {a : Int} (ha : I64 a) : 0 ≤ sz a ∧ sz a ≤ 9223372036854775808 := by unfold I64 at ha; unfold sz; split <;> omega
theorem size_eq {a : Int} (ha : I64 a) : F90_0 a = some (sz a) := by
  unfold I64 at ha
  unfold F90_0 sz
  simp only [IntKind.wrap_u64, IntKind.wrap_i64]
  by_cases h : a < 0
  · rw [decide_eq_true h, cond_true, if_pos h]; exact some_eq (by omega)
  · rw [decide_eq_false h, cond_false, if_neg h]; exact some_eq (by omega)
def bndr (neg : Bool) : Int := bif neg then -9223372036854775808 else 9223372036854775807
theorem rbound_eq (neg o : Bool) : F74_0 (neg, o) = some (bndr neg, true) := by cases neg <;> rfl
/-- A size with a sign. -/
def sgn (neg : Bool) (n : Int) : Int := bif neg then -n else n
theorem big_bnd {n : Int} (hn : 9223372036854775808 < n) (neg o : Bool) : some (bndr neg, true) = some (sat (sgn neg n), o || ovf (sgn neg n)) := by
  cases neg
  · unfold bndr sgn; simp only [cond_false]
    rw [ovf_out (by unfold I64; omega), Bool.or_true]; unfold sat; rw [if_pos (by omega)]
  · unfold bndr sgn; simp only [cond_true]
    rw [ovf_out (by unfold I64; omega), Bool.or_true]; unfold sat; rw [if_neg (by omega), if_pos (by omega)]
theorem sgn_mulR {a b : Int} : sgn (!(decide (a < 0) == decide (b < 0))) (rhe (sz a * sz b) 4294967296) = mulR a b := by
  unfold mulR sz
  by_cases h1 : a < 0 <;> by_cases h2 : b < 0 <;> simp only [h1, h2, decide_true, decide_false, b_tt, b_ff, b_tf, b_ft, Bool.not_true, Bool.not_false, if_true, if_false, sgn, cond_true, cond_false]
  · rw [Int.neg_mul_neg]
  · rw [Int.neg_mul, rhe_neg (by decide), Int.neg_neg]
  · rw [Int.mul_neg, rhe_neg (by decide), Int.neg_neg]
theorem sgn_divR {a b : Int} (hb : b ≠ 0) : sgn (!(decide (a < 0) == decide (b < 0))) (rhe (sz a * 4294967296) (sz b)) = divR a b := by
  unfold divR sz
  by_cases h1 : a < 0 <;> by_cases h2 : b < 0 <;> simp only [h1, h2, decide_true, decide_false, b_tt, b_ff, b_tf, b_ft, Bool.not_true, Bool.not_false, if_true, if_false, sgn, cond_true, cond_false]
  · rw [if_neg (by omega), Int.neg_mul]
  · rw [if_pos (by omega), Int.neg_mul, rhe_neg (by omega), Int.neg_neg]
  · rw [if_neg (by omega), ← rhe_neg (by omega)]
  · rw [if_pos (by omega)]
/-! ### Bit by bit -/
theorem step_bits {x : Int} (hx : 0 ≤ x) (k : Nat) : x * 4294967296 / 2 ^ k = 2 * (x * 4294967296 / 2 ^ (k + 1)) + x * 4294967296 / 2 ^ k % 2 := by
  have e : (2 : Int) ^ (k + 1) = 2 ^ k * 2 := Int.pow_succ _ _
  rw [e, ← Int.ediv_ediv_of_nonneg (Int.le_of_lt (Int.pow_pos (by decide)))]
  omega
theorem bit_hi {x : Int} (k : Nat) (hk : 32 ≤ k) : x * 4294967296 / 2 ^ k = x / 2 ^ (k - 32) := by
  have e : (2 : Int) ^ k = 2 ^ (k - 32) * 4294967296 := by rw [show (4294967296 : Int) = 2 ^ 32 from rfl, ← Int.pow_add, show k - 32 + 32 = k by omega]
  rw [e, Int.mul_ediv_mul_of_pos_left _ _ (by decide)]
theorem bit_lo {x : Int} (k : Nat) (hk : k < 32) : x * 4294967296 / 2 ^ k % 2 = 0 := by
  have e : (4294967296 : Int) = 2 ^ (31 - k) * 2 * 2 ^ k := by rw [← Int.pow_succ, ← Int.pow_add, show 31 - k + 1 + k = 32 by omega]; rfl
  rw [e, ← Int.mul_assoc, Int.mul_ediv_cancel _ (Int.ne_of_gt (Int.pow_pos (by decide))), ← Int.mul_assoc]
  omega
/-- What the division of sizes comes to. -/
def overR (x y : Int) : Int × Bool := if x * 4294967296 / y > 18446744073709551615 ∨ rhe (x * 4294967296) y = 18446744073709551616 then (0, false) else (rhe (x * 4294967296) y, true)
end Go.Proofs.Ytfhhpfhmplgndaa.Ev
