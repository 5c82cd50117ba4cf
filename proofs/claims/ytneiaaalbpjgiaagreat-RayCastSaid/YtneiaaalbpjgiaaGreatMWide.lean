/- Numbers of 128 bits: what the program reckons. -/
import Derived.Test.YtneiaaalbpjgiaaGreatXFns
import Derived.Test.YtneiaaalbpjgiaaGreatMNum
set_option linter.unusedVariables false
set_option linter.unusedSimpArgs false
namespace Go.Proofs.YtneiaaalbpjgiaaGreat.Ev
open Go

theorem mul64_eq {x y : Int} (hx : U64 x) (hy : U64 y) : F87_0 (x, y) = some (x * y / 18446744073709551616, x * y % 18446744073709551616) := by
  unfold U64 at hx hy
  unfold F87_0
  simp only [cond_true, cond_false, fdiv32, IntKind.wrap_u64]
  rw [and_low32 x (by omega) (by omega), and_low32 y (by omega) (by omega), and_low32 _ (by omega) (by omega)]
  rw [mul64_arith x y (by omega) (by omega) (by omega) (by omega)]
theorem mulw_eq {a b : Int} (ha : I64 a) (hb : I64 b) : F73_0 (a, b) = some (wd (a * b)) := by
  have hp := prod_i64 ha hb
  have key : ∀ x y : Int, x = a % 18446744073709551616 → y = b % 18446744073709551616 → F87_0 (x, y) = some (x * y / 18446744073709551616, x * y % 18446744073709551616) := fun x y hx hy => mul64_eq (by unfold U64; omega) (by unfold U64; omega)
  unfold I64 at ha hb
  unfold F73_0 wd
  simp only [cond_true, cond_false, IntKind.wrap_u64, IntKind.wrap_i64]
  rw [key _ _ rfl rfl]
  simp only [cond_true, cond_false, Option.bind_some]
  have ea : a % 18446744073709551616 = if a < 0 then a + 18446744073709551616 else a := by split <;> omega
  have eb : b % 18446744073709551616 = if b < 0 then b + 18446744073709551616 else b := by split <;> omega
  rw [ea, eb]
  by_cases h1 : a < 0
  · simp only [cond_true, cond_false, h1, decide_true, if_true]
    by_cases h2 : b < 0
    · simp only [cond_true, cond_false, h2, decide_true, if_true]
      have e : (a + 18446744073709551616) * (b + 18446744073709551616) = a * b + 18446744073709551616 * (a + b) + 340282366920938463463374607431768211456 := by grind
      rw [e]
      generalize a * b = p at *
      congr 1; apply Prod.ext <;> simp only [] <;> omega
    · simp only [cond_true, cond_false, h2, decide_false, if_false]
      have e : (a + 18446744073709551616) * b = a * b + 18446744073709551616 * b := by grind
      rw [e]
      generalize a * b = p at *
      congr 1; apply Prod.ext <;> simp only [] <;> omega
  · simp only [cond_true, cond_false, h1, decide_false, if_false]
    by_cases h2 : b < 0
    · simp only [cond_true, cond_false, h2, decide_true, if_true]
      have e : a * (b + 18446744073709551616) = a * b + 18446744073709551616 * a := by grind
      rw [e]
      generalize a * b = p at *
      congr 1; apply Prod.ext <;> simp only [] <;> omega
    · simp only [cond_true, cond_false, h2, decide_false, if_false]
      generalize a * b = p at *
      congr 1; apply Prod.ext <;> simp only [] <;> omega
theorem add64_eq {x y c : Int} (hx : U64 x) (hy : U64 y) (hc : 0 ≤ c ∧ c ≤ 1) : F86_x (x, (y, c)) = some ((x + y + c) % 18446744073709551616, (x + y + c) / 18446744073709551616) := by
  unfold U64 at hx hy
  unfold F86_x add64F
  have h : Nat.ble c.toNat 1 = true := Nat.ble_eq_true_of_le (by omega)
  simp only [cond_true, cond_false, h]
  have e : Extern.MathBitsCarry.m64 = 18446744073709551616 := rfl
  rw [e]
  congr 1
  apply Prod.ext <;> simp only [cond_true, cond_false, Int.ofNat_eq_natCast] <;> omega
theorem sub64_eq {x y c : Int} (hx : U64 x) (hy : U64 y) (hc : 0 ≤ c ∧ c ≤ 1) : F85_x (x, (y, c)) = some ((x - y - c) % 18446744073709551616, if x < y + c then 1 else 0) := by
  unfold U64 at hx hy
  unfold F85_x sub64F
  have h : Nat.ble c.toNat 1 = true := Nat.ble_eq_true_of_le (by omega)
  simp only [cond_true, cond_false, h]
  have e : Extern.MathBitsCarry.m64 = 18446744073709551616 := rfl
  rw [e]
  congr 1
  apply Prod.ext <;> simp only [cond_true, cond_false, Int.ofNat_eq_natCast]
  · omega
  · split <;> split <;> omega
theorem ofw_eq {a : Int} (ha : I64 a) : F69_0 a = some (wd a) := by
  unfold I64 at ha
  unfold F69_0 wd
  simp only [cond_true, cond_false, fdiv63, IntKind.wrap_u64]
  congr 1; apply Prod.ext <;> simp only [] <;> omega
/-- What fits: the number itself. -/
theorem addw_eq {p q : Int × Int} (hp : W128 p) (hq : W128 q) (hs : I128 (wv p + wv q)) : F70_0 (p, q) = some (wd (wv p + wv q), true) := by
  obtain ⟨p1, p0⟩ := p
  obtain ⟨q1, q0⟩ := q
  obtain ⟨⟨a1, a2⟩, hp0⟩ := hp
  obtain ⟨⟨b1, b2⟩, hq0⟩ := hq
  simp only [] at *
  have hp0' := hp0; have hq0' := hq0
  unfold U64 at hp0' hq0'
  unfold I128 at hs
  unfold F70_0 wv wd
  unfold wv at hs
  simp only [] at hs
  rw [add64_eq hp0 hq0 (by omega)]
  simp only [cond_true, cond_false, Option.bind_some, IntKind.wrap_u64]
  rw [add64_eq (by unfold U64; omega) (by unfold U64; omega) (by omega)]
  simp only [cond_true, cond_false, Option.bind_some, IntKind.wrap_i64]
  by_cases h1 : p1 < 0 <;> by_cases h2 : q1 < 0 <;> simp only [cond_true, cond_false, h1, h2, decide_true, decide_false, b_tt, b_ff, b_tf, b_ft]
  · rw [decide_eq_true (by omega)]; simp only [cond_true, cond_false, b_tt, Bool.not_true]
    exact some_eq (pair_eq (pair_eq (by omega) (by omega)) rfl)
  · exact some_eq (pair_eq (pair_eq (by omega) (by omega)) rfl)
  · exact some_eq (pair_eq (pair_eq (by omega) (by omega)) rfl)
  · rw [decide_eq_false (by omega)]; simp only [cond_true, cond_false, b_ff, Bool.not_true]
    exact some_eq (pair_eq (pair_eq (by omega) (by omega)) rfl)
theorem addw_no {p q : Int × Int} (hp : W128 p) (hq : W128 q) (hs : ¬ I128 (wv p + wv q)) : F70_0 (p, q) = some ((0, 0), false) := by
  obtain ⟨p1, p0⟩ := p
  obtain ⟨q1, q0⟩ := q
  obtain ⟨⟨a1, a2⟩, hp0⟩ := hp
  obtain ⟨⟨b1, b2⟩, hq0⟩ := hq
  simp only [] at *
  have hp0' := hp0; have hq0' := hq0
  unfold U64 at hp0' hq0'
  unfold I128 at hs
  unfold F70_0
  unfold wv at hs
  simp only [] at hs
  rw [add64_eq hp0 hq0 (by omega)]
  simp only [cond_true, cond_false, Option.bind_some, IntKind.wrap_u64]
  rw [add64_eq (by unfold U64; omega) (by unfold U64; omega) (by omega)]
  simp only [cond_true, cond_false, Option.bind_some, IntKind.wrap_i64]
  by_cases h1 : p1 < 0 <;> by_cases h2 : q1 < 0 <;> simp only [cond_true, cond_false, h1, h2, decide_true, decide_false, b_tt, b_ff, b_tf, b_ft]
  · rw [decide_eq_false (by omega)]; simp only [cond_true, cond_false, b_ft, Bool.not_false]
  · omega
  · omega
  · rw [decide_eq_true (by omega)]; simp only [cond_true, cond_false, b_tf, Bool.not_false]
theorem negw_eq {p : Int × Int} (hp : W128 p) (hs : I128 (-wv p)) : F68_0 p = some (wd (-wv p), true) := by
  obtain ⟨p1, p0⟩ := p
  obtain ⟨⟨a1, a2⟩, hp0⟩ := hp
  simp only [] at *
  have hp0' := hp0
  unfold U64 at hp0'
  unfold I128 at hs
  unfold F68_0 wv wd
  unfold wv at hs
  simp only [] at hs
  rw [sub64_eq (by unfold U64; omega) hp0 (by omega)]
  simp only [cond_true, cond_false, Option.bind_some, IntKind.wrap_u64]
  rw [sub64_eq (by unfold U64; omega) (by unfold U64; omega) (by split <;> omega)]
  simp only [cond_true, cond_false, Option.bind_some, IntKind.wrap_i64]
  by_cases h1 : p1 < 0 <;> simp only [cond_true, cond_false, h1, decide_true, decide_false]
  · rw [decide_eq_false (by split <;> omega)]
    exact some_eq (pair_eq (pair_eq (by split <;> omega) (by omega)) rfl)
  · exact some_eq (pair_eq (pair_eq (by split <;> omega) (by omega)) rfl)
theorem of_I128 {a : Int} (h : I64 a) : I128 a := by unfold I64 at h; unfold I128; omega
theorem fit_wd {n : Int} (hn : I128 n) : ((wd n).1 != (IntKind.wrap .i64 (wd n).2) / 9223372036854775808) = !decide (I64 n) ∧ (I64 n → IntKind.wrap .i64 (wd n).2 = n) ∧ decide ((wd n).1 < 0) = decide (n < 0) := by
  unfold I128 at hn
  unfold wd
  simp only [cond_true, cond_false, IntKind.wrap_i64]
  refine ⟨?_, fun h => ?_, ?_⟩
  · by_cases h : I64 n
    · rw [decide_eq_true h]; unfold I64 at h; simp; omega
    · rw [decide_eq_false h]; unfold I64 at h; simp; omega
  · unfold I64 at h; omega
  · by_cases h : n < 0
    · rw [decide_eq_true h, decide_eq_true (by omega)]
    · rw [decide_eq_false h, decide_eq_false (by omega)]
end Go.Proofs.YtneiaaalbpjgiaaGreat.Ev
