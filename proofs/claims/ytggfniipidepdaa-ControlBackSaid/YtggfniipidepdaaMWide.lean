/- Numbers of 128 bits: what the program reckons. -/
import Derived.Test.YtggfniipidepdaaXFns
import Derived.Test.YtggfniipidepdaaMNum
set_option linter.unusedVariables false
set_option linter.unusedSimpArgs false
namespace Go.Proofs.Ytggfniipidepdaa.Ev
open Go

theorem sub64_eq {x y c : Int} (hx : U64 x) (hy : U64 y) (hc : 0 ≤ c ∧ c ≤ 1) : F70_x (x, (y, c)) = some ((x - y - c) % 18446744073709551616, if x < y + c then 1 else 0) := by
  unfold U64 at hx hy
  unfold F70_x sub64F
  have h : Nat.ble c.toNat 1 = true := Nat.ble_eq_true_of_le (by omega)
  simp only [cond_true, cond_false, h]
  have e : Extern.MathBitsCarry.m64 = 18446744073709551616 := rfl
  rw [e]
  congr 1
  apply Prod.ext <;> simp only [cond_true, cond_false, Int.ofNat_eq_natCast]
  · omega
  · split <;> split <;> omega
theorem of_I128 {a : Int} (h : I64 a) : I128 a := by unfold I64 at h; unfold I128; omega
theorem fit_wd {n : Int} (hn : I128 n) : ((wd n).1 != (IntKind.wrap .i64 (wd n).2) / 9223372036854775808) = !decide (I64 n) ∧ (I64 n → IntKind.wrap .i64 (wd n).2 = n) ∧ decide ((wd n).1 < 0) = decide (n < 0) := by
  unfold I128 at hn
  unfold wd
  simp only [cond_true, cond_false, IntKind.wrap_i64]
  refine ⟨?_, fun h => ?_, ?_⟩
  · by_cases h : I64 n
    · rw [decide_eq_true h]; unfold I64 at h; simp; omega
    · rw [decide_eq_false h]; unfold I64 at h; simp; omega
  · unfold I64 at h; omega
  · by_cases h : n < 0
    · rw [decide_eq_true h, decide_eq_true (by omega)]
    · rw [decide_eq_false h, decide_eq_false (by omega)]
end Go.Proofs.Ytggfniipidepdaa.Ev
