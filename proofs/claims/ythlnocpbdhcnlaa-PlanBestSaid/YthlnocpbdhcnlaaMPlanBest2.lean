/- PlanBest: what its function computes is true, whatever comes in: the last steps. -/
import Derived.Test.YthlnocpbdhcnlaaMPlanBest
set_option linter.unusedVariables false
set_option linter.unusedSimpArgs false
namespace Go.Proofs.Ythlnocpbdhcnlaa.Ev
open Go
theorem K27_eq (a : List Int) (hl : a.length ≤ 200) : ∀ (d i n : Nat), a.length - i = d → i ≤ a.length → d < n → K27_0 n (a, (a, (i : Int))) = some true := by
  intro d
  induction d with
  | zero =>
    intro i n h1 h2 h3
    obtain ⟨n, rfl⟩ : ∃ k, n = k + 1 := ⟨n - 1, by omega⟩
    have hlt : decide ((i : Int) < (a.length : Int)) = false := by simp only [decide_eq_false_iff_not]; omega
    show B27_0_4 (K27_0 n) _ = _
    simp only [B27_0_4, hlt]
  | succ d ih =>
    intro i n h1 h2 h3
    obtain ⟨n, rfl⟩ : ∃ k, n = k + 1 := ⟨n - 1, by omega⟩
    have hi : i < a.length := by omega
    have hlt : decide ((i : Int) < (a.length : Int)) = true := by simp only [decide_eq_true_eq]; omega
    have hw : IntKind.wrap .i64 ((i : Int) + 1) = ((i + 1 : Nat) : Int) := by
      have h : IntKind.wrap .i64 ((i : Int) + 1) = (i : Int) + 1 := W_in _ (by omega) (by omega)
      rw [h]; rfl
    show B27_0_4 (K27_0 n) _ = _
    simp only [B27_0_4, hlt, rdx_nat, List.getElem?_eq_getElem hi, Option.bind_some, hw, bne_self_eq_false]
    exact ih (i + 1) n (by omega) (by omega) (by omega)
theorem F27_same (a : List Int) (hl : a.length ≤ 200) : F27_0 (a, a) = some true := by
  show E27_0 (K27_0 1000) _ = _
  simp only [E27_0, bne_self_eq_false]
  have := K27_eq a hl a.length 0 1000 (by omega) (by omega) (by omega)
  simpa using this
theorem F26_no {r : Race} (hl : r.2.2.1.length ≤ 200) (hok : okR r = false) : F26_0 r = some (((0 : Int), false), ([] : List Int)) := by
  have f21 := F21_eq r hl
  obtain ⟨laps, base, old, heavy, stop, most⟩ := r
  show E26_0 (K26_0 40000) _ = _
  have c4 : ((40 : Int) != 0) = true := rfl
  simp only [E26_0, f21, hok, Option.bind_some, Bool.false_eq_true, if_false, c4]
theorem law6_0 (v : Race) (h : Dom6_0 v) : F6_0 v = some true := by
  by_cases hl : v.2.2.1.length ≤ 200
  · have hno := fun hok => F25_no (r := v) hl hok
    have hno2 := fun hok => F26_no (r := v) hl hok
    obtain ⟨laps, base, old, heavy, stop, most⟩ := v
    simp only at hl
    have c1 : decide ((old.length : Int) ≤ 200) = true := by simp; omega
    by_cases h12 : laps > 12
    · simp only [F6_0, F16_0, c1, Option.bind_some, Bool.not_true, h12, decide_true]
    · have c2 : decide (laps > 12) = false := by simp only [decide_eq_false_iff_not]; exact h12
      cases hok : okR (laps, base, old, heavy, stop, most) with
      | false =>
        have c3 : F27_0 (([] : List Int), ([] : List Int)) = some true := F27_same [] (by simp)
        have c4 : ((0 : Int) == 0) = true := rfl
        have c5 : (false == false) = true := rfl
        simp only [F6_0, F16_0, F19_0, c1, c2, hno hok, hno2 hok, Option.bind_some, Bool.not_true, c3, c4, c5, awake47]
      | true =>
        have hlp := okR_laps hok
        simp only at hlp
        obtain ⟨L, rfl⟩ := Int.eq_ofNat_of_zero_le (show 0 ≤ laps by omega)
        obtain ⟨q, t, hq, e1, e2⟩ := best_both (L := L) (by omega) (by omega) hok
        have c3 := F27_same q (by omega)
        have c4 : (t == t) = true := by simp
        have c5 : (true == true) = true := rfl
        simp only [F6_0, F16_0, F19_0, c1, c2, e1, e2, Option.bind_some, Bool.not_true, c3, c4, c5, awake47]
  · have c1 : decide ((v.2.2.1.length : Int) ≤ 200) = false := by simp; omega
    obtain ⟨laps, base, old, heavy, stop, most⟩ := v
    simp only [F6_0, F16_0, Option.bind_some, c1, Bool.not_false]
end Go.Proofs.Ythlnocpbdhcnlaa.Ev
