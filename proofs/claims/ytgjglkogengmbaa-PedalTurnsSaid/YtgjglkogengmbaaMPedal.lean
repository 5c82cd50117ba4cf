/- Chapter 20: the steering angle and what is eased. -/
import Derived.Test.YtgjglkogengmbaaMFx
import Derived.Test.YtgjglkogengmbaaMRef
set_option linter.unusedVariables false
set_option linter.unusedSimpArgs false
namespace Go.Proofs.Ytgjglkogengmbaa.Ev
open Go

set_option maxRecDepth 100000 in
theorem awake20 : F10_0 () = some true := by kernel_rfl
def clampL (n : Int) : Int := if n < -127 then -127 else if n > 127 then 127 else n
def leanS (n : Int) : Int := divS (clampL n) 127
theorem clampL_in (n : Int) : -127 ≤ clampL n ∧ clampL n ≤ 127 := by unfold clampL; split <;> (try split) <;> omega
theorem lean_eq (n : Int) : F20_0 n = some (leanS n) := by
  unfold F20_0 F41_0 leanS
  have e : (if (127 : Int) < (if (-127 : Int) > n then (-127 : Int) else n) then (127 : Int) else (if (-127 : Int) > n then (-127 : Int) else n)) = clampL n := by
    unfold clampL; split <;> split <;> (try split) <;> omega
  have h := clampL_in n
  simp only [e]
  rw [ratio_p (show I64 (clampL n) by unfold I64; omega) (show I64 127 by decide)]; rfl
theorem rlean_eq (n : Int) : F23_0 n = some (leanS n) := by
  unfold F23_0 leanS
  have e : (if (-127 : Int) > (if (127 : Int) < n then (127 : Int) else n) then (-127 : Int) else (if (127 : Int) < n then (127 : Int) else n)) = clampL n := by
    unfold clampL; split <;> split <;> (try split) <;> omega
  have h := clampL_in n
  simp only [e]
  rw [rratio_eq (show I64 (clampL n) by unfold I64; omega) (show I64 127 by decide)]; rfl
theorem lean_in (n : Int) : -4294967296 ≤ leanS n ∧ leanS n ≤ 4294967296 := by
  have h := clampL_in n
  have h1 : divR (clampL n) 127 ≤ 4294967296 := rhe_le (by decide) (by omega)
  have h2 : -4294967296 ≤ divR (clampL n) 127 := rhe_ge (by decide) (by omega)
  unfold leanS divS
  rw [if_neg (by decide), sat_in (by unfold I64; omega)]
  exact ⟨h2, h1⟩
theorem want_in {l s : Int} (hl : -4294967296 ≤ l ∧ l ≤ 4294967296) (hs : 0 ≤ s ∧ s ≤ 4294967295) : -s ≤ mulS l s ∧ mulS l s ≤ s := by
  have h1 : l * s ≤ 4294967296 * s := Int.mul_le_mul_of_nonneg_right hl.2 hs.1
  have h2 : -4294967296 * s ≤ l * s := Int.mul_le_mul_of_nonneg_right hl.1 hs.1
  have h3 : mulR l s ≤ s := rhe_le (by decide) (by omega)
  have h4 : -s ≤ mulR l s := rhe_ge (by decide) (by omega)
  unfold mulS
  rw [sat_in (by unfold I64; omega)]
  exact ⟨h4, h3⟩
/-- An angle as a number with a sign. -/
def sgnA (n : Int) : Int := if n ≥ 2147483648 then n - 4294967296 else n
theorem signA_eq {n : Int} (hn : 0 ≤ n ∧ n ≤ 4294967295) : F24_0 n = some (sgnA n) := by
  unfold F24_0 sgnA
  simp only [wrap_i64 (show I64 n by unfold I64; omega)]
  by_cases h : n ≥ 2147483648
  · rw [decide_eq_true h, cond_true, if_pos h, wrap_i64 (by unfold I64; omega)]
  · rw [decide_eq_false h, cond_false, if_neg h]
theorem i32A {n : Int} (hn : 0 ≤ n ∧ n ≤ 4294967295) : IntKind.wrap .i64 (IntKind.wrap .i32 n) = sgnA n := by
  unfold sgnA
  rw [IntKind.wrap_i32, IntKind.wrap_i64]
  split <;> omega
def clampS (x s : Int) : Int := if s < (if -s > x then -s else x) then s else (if -s > x then -s else x)
/-- The angle behind a tick, as a number with a sign; want, and how far. -/
def turnS (now want step : Int) : Int := sgnA now + clampS (want - sgnA now) step
structure CarOk (steer rate ask now : Int) : Prop where
  s : 0 ≤ steer ∧ steer ≤ 4294967295
  r : 0 ≤ rate ∧ rate ≤ 4294967295
  n : 0 ≤ now ∧ now ≤ 4294967295
theorem step_in {r k : Int} (hr : 0 ≤ r ∧ r ≤ 4294967295) (hk : 1 ≤ k) : 0 ≤ r / k ∧ r / k ≤ r := by
  refine ⟨Int.ediv_nonneg hr.1 (by omega), Int.ediv_le_self _ hr.1⟩
theorem psteer_eq (v : A8_0) (hs : 0 ≤ v.1.2.2.2.2.2.2.2.2.2.2.2.2.2.2.2.2.2.2.2.2.2.2.2.2.2.2.2.2.2.2.2.2.2.2.2.2.2.2.2.2.2.2.2.2.2.2.2.2.2.2.2.2.2.2.2.2.2.2.2.2.2.2.2.2.2.2.2.1 ∧ v.1.2.2.2.2.2.2.2.2.2.2.2.2.2.2.2.2.2.2.2.2.2.2.2.2.2.2.2.2.2.2.2.2.2.2.2.2.2.2.2.2.2.2.2.2.2.2.2.2.2.2.2.2.2.2.2.2.2.2.2.2.2.2.2.2.2.2.2.1 ≤ 4294967295) (hr : 0 ≤ v.1.2.2.2.2.2.2.2.2.2.2.2.2.2.2.2.2.2.2.2.2.2.2.2.2.2.2.2.2.2.2.2.2.2.2.2.2.2.2.2.2.2.2.2.2.2.2.2.2.2.2.2.2.2.2.2.2.2.2.2.2.2.2.2.2.2.2.2.2.1 ∧ v.1.2.2.2.2.2.2.2.2.2.2.2.2.2.2.2.2.2.2.2.2.2.2.2.2.2.2.2.2.2.2.2.2.2.2.2.2.2.2.2.2.2.2.2.2.2.2.2.2.2.2.2.2.2.2.2.2.2.2.2.2.2.2.2.2.2.2.2.2.1 ≤ 4294967295) (hn : 0 ≤ v.2.2.1 ∧ v.2.2.1 ≤ 4294967295) :
    F8_0 v = some (if v.2.1 < 1 ∨ v.2.1 > 1024 then v.2.2.1 else turnS v.2.2.1 (mulS (leanS v.2.2.2) v.1.2.2.2.2.2.2.2.2.2.2.2.2.2.2.2.2.2.2.2.2.2.2.2.2.2.2.2.2.2.2.2.2.2.2.2.2.2.2.2.2.2.2.2.2.2.2.2.2.2.2.2.2.2.2.2.2.2.2.2.2.2.2.2.2.2.2.2.1) (v.1.2.2.2.2.2.2.2.2.2.2.2.2.2.2.2.2.2.2.2.2.2.2.2.2.2.2.2.2.2.2.2.2.2.2.2.2.2.2.2.2.2.2.2.2.2.2.2.2.2.2.2.2.2.2.2.2.2.2.2.2.2.2.2.2.2.2.2.2.1 / v.2.1) % 4294967296) := by
  unfold F8_0
  generalize hs' : v.1.2.2.2.2.2.2.2.2.2.2.2.2.2.2.2.2.2.2.2.2.2.2.2.2.2.2.2.2.2.2.2.2.2.2.2.2.2.2.2.2.2.2.2.2.2.2.2.2.2.2.2.2.2.2.2.2.2.2.2.2.2.2.2.2.2.2.2.1 = s at *
  generalize hr' : v.1.2.2.2.2.2.2.2.2.2.2.2.2.2.2.2.2.2.2.2.2.2.2.2.2.2.2.2.2.2.2.2.2.2.2.2.2.2.2.2.2.2.2.2.2.2.2.2.2.2.2.2.2.2.2.2.2.2.2.2.2.2.2.2.2.2.2.2.2.1 = r at *
  obtain ⟨c, rate, now, lean⟩ := v
  simp only [] at *
  by_cases h1 : rate < 1
  · rw [decide_eq_true h1, cond_true, if_pos (.inl h1)]
  · rw [decide_eq_false h1, cond_false]
    by_cases h2 : rate > 1024
    · rw [decide_eq_true h2, cond_true, if_pos (.inr h2)]
    · rw [decide_eq_false h2, cond_false, if_neg (by omega)]
      have hl := lean_in lean
      have hw := want_in hl hs
      have hst := step_in hr (show 1 ≤ rate by omega)
      have hli : I64 (leanS lean) := by unfold I64; omega
      have hsi : I64 s := by unfold I64; omega
      have hg : -2147483648 ≤ sgnA now ∧ sgnA now ≤ 2147483647 := by unfold sgnA; split <;> omega
      simp only [lean_eq, Option.bind_some, wrap_i64 hsi, mul_n hli hsi, wrap_i64 (show I64 r by unfold I64; omega), show (rate != 0) = true by simp; omega, chk, tdiv_nn hr.1, i32A hn]
      rw [wrap_i64 (n := r / rate) (by unfold I64; omega)]
      generalize mulS (leanS lean) s = want at *
      generalize r / rate = st at *
      have e1 : IntKind.wrap .i64 (want - sgnA now) = want - sgnA now := wrap_i64 (by unfold I64; omega)
      have e2 : F21_0 (want - sgnA now, st) = some (clampS (want - sgnA now) st, st) := by
        unfold F21_0 clampS
        simp only []
        rw [wrap_i64 (n := 0 - st) (by unfold I64; omega), show (0 : Int) - st = -st by omega]
      rw [e1, e2]
      simp only [Option.bind_some, IntKind.wrap_u32]
      have e3 : I64 (sgnA now + clampS (want - sgnA now) st) := by unfold I64 clampS; split <;> split <;> omega
      rw [wrap_i64 e3]; rfl
theorem rsteer_eq (v : A9_0) (hs : 0 ≤ v.1.2.2.2.2.2.2.2.2.2.2.2.2.2.2.2.2.2.2.2.2.2.2.2.2.2.2.2.2.2.2.2.2.2.2.2.2.2.2.2.2.2.2.2.2.2.2.2.2.2.2.2.2.2.2.2.2.2.2.2.2.2.2.2.2.2.2.2.1 ∧ v.1.2.2.2.2.2.2.2.2.2.2.2.2.2.2.2.2.2.2.2.2.2.2.2.2.2.2.2.2.2.2.2.2.2.2.2.2.2.2.2.2.2.2.2.2.2.2.2.2.2.2.2.2.2.2.2.2.2.2.2.2.2.2.2.2.2.2.2.1 ≤ 4294967295) (hr : 0 ≤ v.1.2.2.2.2.2.2.2.2.2.2.2.2.2.2.2.2.2.2.2.2.2.2.2.2.2.2.2.2.2.2.2.2.2.2.2.2.2.2.2.2.2.2.2.2.2.2.2.2.2.2.2.2.2.2.2.2.2.2.2.2.2.2.2.2.2.2.2.2.1 ∧ v.1.2.2.2.2.2.2.2.2.2.2.2.2.2.2.2.2.2.2.2.2.2.2.2.2.2.2.2.2.2.2.2.2.2.2.2.2.2.2.2.2.2.2.2.2.2.2.2.2.2.2.2.2.2.2.2.2.2.2.2.2.2.2.2.2.2.2.2.2.1 ≤ 4294967295) (hn : 0 ≤ v.2.2.1 ∧ v.2.2.1 ≤ 4294967295) :
    F9_0 v = some (if v.2.1 < 1 ∨ v.2.1 > 1024 then v.2.2.1 else turnS v.2.2.1 (mulS (leanS v.2.2.2) v.1.2.2.2.2.2.2.2.2.2.2.2.2.2.2.2.2.2.2.2.2.2.2.2.2.2.2.2.2.2.2.2.2.2.2.2.2.2.2.2.2.2.2.2.2.2.2.2.2.2.2.2.2.2.2.2.2.2.2.2.2.2.2.2.2.2.2.2.1) (v.1.2.2.2.2.2.2.2.2.2.2.2.2.2.2.2.2.2.2.2.2.2.2.2.2.2.2.2.2.2.2.2.2.2.2.2.2.2.2.2.2.2.2.2.2.2.2.2.2.2.2.2.2.2.2.2.2.2.2.2.2.2.2.2.2.2.2.2.2.1 / v.2.1) % 4294967296) := by
  unfold F9_0
  generalize hs' : v.1.2.2.2.2.2.2.2.2.2.2.2.2.2.2.2.2.2.2.2.2.2.2.2.2.2.2.2.2.2.2.2.2.2.2.2.2.2.2.2.2.2.2.2.2.2.2.2.2.2.2.2.2.2.2.2.2.2.2.2.2.2.2.2.2.2.2.2.1 = s at *
  generalize hr' : v.1.2.2.2.2.2.2.2.2.2.2.2.2.2.2.2.2.2.2.2.2.2.2.2.2.2.2.2.2.2.2.2.2.2.2.2.2.2.2.2.2.2.2.2.2.2.2.2.2.2.2.2.2.2.2.2.2.2.2.2.2.2.2.2.2.2.2.2.2.1 = r at *
  obtain ⟨c, rate, now, lean⟩ := v
  simp only [] at *
  by_cases h1 : rate < 1
  · rw [decide_eq_true h1, cond_true, if_pos (.inl h1)]
  · rw [decide_eq_false h1, cond_false]
    by_cases h2 : rate > 1024
    · rw [decide_eq_true h2, cond_true, if_pos (.inr h2)]
    · rw [decide_eq_false h2, cond_false, if_neg (by omega)]
      have hl := lean_in lean
      have hw := want_in hl hs
      have hst := step_in hr (show 1 ≤ rate by omega)
      have hli : I64 (leanS lean) := by unfold I64; omega
      have hsi : I64 s := by unfold I64; omega
      have hg : -2147483648 ≤ sgnA now ∧ sgnA now ≤ 2147483647 := by unfold sgnA; split <;> omega
      simp only [rlean_eq, Option.bind_some, wrap_i64 hsi, rmul_eq hli hsi, wrap_i64 (show I64 r by unfold I64; omega), show (rate != 0) = true by simp; omega, chk, tdiv_nn hr.1, signA_eq hn]
      rw [wrap_i64 (n := r / rate) (by unfold I64; omega)]
      generalize mulS (leanS lean) s = want at *
      generalize r / rate = st at *
      unfold turnS clampS
      generalize sgnA now = n at *
      rw [wrap_i64 (n := n + st) (by unfold I64; omega), wrap_i64 (n := n - st) (by unfold I64; omega)]
      have tail : ∀ w : Int, -4294967296 ≤ w → w ≤ 18446744073709551 → some (IntKind.wrap .u32 (Int.tmod (IntKind.wrap .i64 (w + 4294967296)) 4294967296)) = some (w % 4294967296) := by
        intro w h3 h4
        rw [wrap_i64 (by unfold I64; omega), tmod_nn (by omega), IntKind.wrap_u32]
        exact some_eq (by omega)
      by_cases c1 : want > n + st
      · rw [decide_eq_true c1, cond_true, decide_eq_false (by omega), cond_false, tail _ (by omega) (by omega), if_neg (show ¬ -st > want - n by omega), if_pos (show st < want - n by omega)]
      · rw [decide_eq_false c1, cond_false]
        by_cases c2 : want < n - st
        · rw [decide_eq_true c2, cond_true, tail _ (by omega) (by omega), if_pos (show -st > want - n by omega)]
          exact some_eq (by split <;> omega)
        · rw [decide_eq_false c2, cond_false, tail _ (by omega) (by omega), if_neg (show ¬ -st > want - n by omega), if_neg (show ¬ st < want - n by omega)]
          exact some_eq (by omega)
theorem u32wf {n : Int} (h : (Lit.int .u32 n).wf = true) : 0 ≤ n ∧ n ≤ 4294967295 := by
  have : IntKind.u32.min ≤ n ∧ n ≤ IntKind.u32.max := by simpa [Lit.wf] using h
  exact this
theorem i64wf {n : Int} (h : (Lit.int .i64 n).wf = true) : I64 n := by
  have : IntKind.i64.min ≤ n ∧ n ≤ IntKind.i64.max := by simpa [Lit.wf] using h
  exact this
theorem law3_0 (v : A3_0) (h : Dom3_0 v) : F3_0 v = some true := by
  have hs := u32wf h.1.2.2.2.2.2.2.2.2.2.2.2.2.2.2.2.2.2.2.2.2.2.2.2.2.2.2.2.2.2.2.2.2.2.2.2.2.2.2.2.2.2.2.2.2.2.2.2.2.2.2.2.2.2.2.2.2.2.2.2.1
  have hr := u32wf h.1.2.2.2.2.2.2.2.2.2.2.2.2.2.2.2.2.2.2.2.2.2.2.2.2.2.2.2.2.2.2.2.2.2.2.2.2.2.2.2.2.2.2.2.2.2.2.2.2.2.2.2.2.2.2.2.2.2.2.2.2.1
  have hn := u32wf h.2.1
  unfold F3_0
  rw [psteer_eq (v.1, (v.2.2.1, (v.2.1, v.2.2.2))) hs hr hn, rsteer_eq (v.1, (v.2.2.1, (v.2.1, v.2.2.2))) hs hr hn]
  simp only [Option.bind_some, beq_self_eq_true, cond_true, awake20]
theorem law4_0 (v : A4_0) (h : Dom4_0 v) : F4_0 v = some true := by
  have hs := u32wf h.1.2.2.2.2.2.2.2.2.2.2.2.2.2.2.2.2.2.2.2.2.2.2.2.2.2.2.2.2.2.2.2.2.2.2.2.2.2.2.2.2.2.2.2.2.2.2.2.2.2.2.2.2.2.2.2.2.2.2.2.1
  have hr := u32wf h.1.2.2.2.2.2.2.2.2.2.2.2.2.2.2.2.2.2.2.2.2.2.2.2.2.2.2.2.2.2.2.2.2.2.2.2.2.2.2.2.2.2.2.2.2.2.2.2.2.2.2.2.2.2.2.2.2.2.2.2.2.1
  have hn := u32wf h.2.1
  unfold F4_0
  simp only [psteer_eq (v.1, (v.2.2.1, (v.2.1, v.2.2.2))) hs hr hn, awake20, Option.bind_some]
  generalize v.1.2.2.2.2.2.2.2.2.2.2.2.2.2.2.2.2.2.2.2.2.2.2.2.2.2.2.2.2.2.2.2.2.2.2.2.2.2.2.2.2.2.2.2.2.2.2.2.2.2.2.2.2.2.2.2.2.2.2.2.2.2.2.2.2.2.2.2.1 = s at *
  generalize v.1.2.2.2.2.2.2.2.2.2.2.2.2.2.2.2.2.2.2.2.2.2.2.2.2.2.2.2.2.2.2.2.2.2.2.2.2.2.2.2.2.2.2.2.2.2.2.2.2.2.2.2.2.2.2.2.2.2.2.2.2.2.2.2.2.2.2.2.2.1 = r at *
  obtain ⟨c, now, rate, lean⟩ := v
  simp only [] at *
  by_cases h1 : rate < 1
  · rw [decide_eq_true h1, cond_true]
  rw [decide_eq_false h1, cond_false]
  by_cases h2 : rate > 1024
  · rw [decide_eq_true h2, cond_true]
  rw [decide_eq_false h2, cond_false]
  by_cases h3 : s > 536870912
  · rw [decide_eq_true h3, cond_true]
  rw [decide_eq_false h3, cond_false]
  by_cases h4 : r > 2147483648
  · rw [decide_eq_true h4, cond_true]
  rw [decide_eq_false h4, cond_false, if_neg (by omega)]
  have hl := lean_in lean
  have hw := want_in hl hs
  have hst := step_in hr (show 1 ≤ rate by omega)
  have hg : -2147483648 ≤ sgnA now ∧ sgnA now ≤ 2147483647 := by unfold sgnA; split <;> omega
  simp only [i32A hn, show (rate != 0) = true by simp; omega, chk, Option.bind_some, tdiv_nn hr.1, wrap_i64 (show I64 r by unfold I64; omega), wrap_i64 (show I64 s by unfold I64; omega)]
  rw [wrap_i64 (n := r / rate) (by unfold I64; omega)]
  unfold turnS
  generalize mulS (leanS lean) s = want at *
  generalize r / rate = st at *
  generalize sgnA now = n at *
  have hc : (n ≤ n + clampS (want - n) st ∧ n + clampS (want - n) st ≤ n + st ∧ n + clampS (want - n) st ≤ want) ∨ (n + clampS (want - n) st ≤ n ∧ n - st ≤ n + clampS (want - n) st ∧ want ≤ n + clampS (want - n) st) := by
    unfold clampS; split <;> split <;> omega
  generalize n + clampS (want - n) st = b at *
  have hb : IntKind.wrap .i64 (IntKind.wrap .i32 (b % 4294967296)) = b := by rw [IntKind.wrap_i32, IntKind.wrap_i64]; omega
  rw [hb, wrap_i64 (n := b - n) (by unfold I64; omega), wrap_i64 (n := n - b) (by unfold I64; omega), wrap_i64 (n := 0 - s) (by unfold I64; omega)]
  rw [decide_eq_true (show b - n ≤ st by omega), cond_true, decide_eq_true (show n - b ≤ st by omega), cond_true, decide_eq_true (by split <;> omega), cond_true, decide_eq_true (by split <;> omega), cond_true]
theorem law5_0 (v : A5_0) (h : Dom5_0 v) : F5_0 v = some true := by
  obtain ⟨n, slip, most⟩ := v
  have hn : I64 n := i64wf h.1
  have hs : I64 slip := i64wf h.2.1
  unfold F5_0
  simp only [awake20, Option.bind_some]
  by_cases h0 : n < 0
  · rw [decide_eq_true h0, cond_true]
  rw [decide_eq_false h0, cond_false]
  have hn' := hn
  unfold I64 at hn'
  have hm1 : mulR n 2147483648 ≤ n := rhe_le (by decide) (by omega)
  have hm2 : n / 2 ≤ mulR n 2147483648 := rhe_ge (by decide) (by omega)
  have hm : mulS n 2147483648 = mulR n 2147483648 := sat_in (by unfold I64; omega)
  obtain ⟨e, o, he, h1, h2⟩ : ∃ e o, F11_0 ((n, (slip, most)), false) = some (e, o) ∧ e ≤ n ∧ n / 2 ≤ e := by
    unfold F11_0
    simp only [abs_p hs, Option.bind_some, mul_p hn (show I64 2147483648 by decide), hm]
    by_cases c1 : most = 0
    · rw [show (most == 0) = true by simpa using c1]; exact ⟨_, _, rfl, by omega, by omega⟩
    · rw [show (most == 0) = false by simpa using c1, cond_false]
      by_cases c2 : absS slip ≤ most
      · rw [decide_eq_true c2]; exact ⟨_, _, rfl, by omega, by omega⟩
      · rw [decide_eq_false c2]; exact ⟨_, _, rfl, hm1, hm2⟩
  rw [he]
  simp only [Option.bind_some, tdiv_nn (show 0 ≤ n by omega), wrap_i64 (show I64 (n / 2) by unfold I64; omega)]
  rw [decide_eq_true h1, cond_true, decide_eq_true (show e ≥ n / 2 from h2), cond_true]
end Go.Proofs.Ytgjglkogengmbaa.Ev
