/- Numbers of 128 bits: signs, comparison, and parts of 2^32: what the program reckons. -/
import Derived.Test.YtneiaaalbpjgiaaGreatMWide
set_option linter.unusedVariables false
set_option linter.unusedSimpArgs false
namespace Go.Proofs.YtneiaaalbpjgiaaGreat.Ev
open Go

def sign3 (n : Int) : Int := if n = 0 then 0 else if n < 0 then -1 else 1
def cmp3 (a b : Int) : Int := if a < b then -1 else if a > b then 1 else 0
theorem belowz_eq {p q : Int × Int} (hp : U64 p.1 ∧ U64 p.2) (hq : U64 q.1 ∧ U64 q.2) : F101_0 (p, q) = some (decide (wv p < wv q)) := by
  obtain ⟨hi, lo⟩ := p
  obtain ⟨hi', lo'⟩ := q
  obtain ⟨⟨a1, a2⟩, b1, b2⟩ := hp
  obtain ⟨⟨c1, c2⟩, d1, d2⟩ := hq
  simp only [] at *
  unfold F101_0 wv
  simp only []
  by_cases h1 : hi < hi'
  · rw [decide_eq_true h1, decide_eq_true (show hi * 18446744073709551616 + lo < hi' * 18446744073709551616 + lo' by omega)]; rfl
  · rw [decide_eq_false h1, cond_false]
    by_cases h2 : hi = hi'
    · subst h2
      rw [beq_self_eq_true, cond_true]
      exact some_eq (decide_eq_decide.2 (by omega))
    · rw [show (hi == hi') = false by simpa using h2, cond_false, decide_eq_false (show ¬ hi * 18446744073709551616 + lo < hi' * 18446744073709551616 + lo' by omega)]
/-- A part of 2^32. -/
def partS (a b : Int) : Int := if a < 0 ∨ b ≤ a then 0 else a * 4294967296 / b
theorem partS_in (a b : Int) : 0 ≤ partS a b ∧ partS a b ≤ 4294967295 := by
  unfold partS
  split
  · decide
  · refine ⟨Int.ediv_nonneg (by omega) (by omega), ?_⟩
    apply Int.le_of_lt_add_one
    rw [Int.ediv_lt_iff_lt_mul (by omega)]
    omega
theorem pow2_succ (i : Nat) : (2 : Int) ^ (i + 1) = 2 ^ i * 2 := Int.pow_succ _ _
end Go.Proofs.YtneiaaalbpjgiaaGreat.Ev
