/- PlanTimes: what its function computes is true, whatever comes in. -/
import Derived.Test.YthlnocpbdhcnlaaMPlan
set_option linter.unusedVariables false
set_option linter.unusedSimpArgs false
namespace Go.Proofs.Ythlnocpbdhcnlaa.Ev
open Go
set_option maxRecDepth 100000 in
theorem awake47 : F22_0 () = some true := by kernel_rfl
theorem K5_eq (r : Race) (hl : r.2.2.1.length ≤ 200) (h100 : r.1 ≤ 100) : ∀ (d n : Nat) (x : Int), (103 - x).toNat = d → -1 ≤ x → x ≤ 103 → d < n → K5_0 n (x, r) = some true := by
  have f23 := F23_eq r hl h100
  have f24 := F24_eq r hl h100
  obtain ⟨laps, base, old, heavy, stop, most⟩ := r
  intro d
  induction d with
  | zero =>
    intro n x h1 h2 h3 h4
    obtain ⟨n, rfl⟩ : ∃ k, n = k + 1 := ⟨n - 1, by omega⟩
    have hlt : decide (x < 103) = false := by simp; omega
    simp only [K5_0, B5_0_10, hlt, awake47, Option.bind_some]
  | succ d ih =>
    intro n x h1 h2 h3 h4
    obtain ⟨n, rfl⟩ : ∃ k, n = k + 1 := ⟨n - 1, by omega⟩
    have hlt : decide (x < 103) = true := by simp; omega
    have hw : IntKind.wrap .i64 (x + 1) = x + 1 := W_in _ (by omega) (by omega)
    simp only [K5_0, B5_0_10, hlt, F19_0, f23, f24, Option.bind_some, hw, bne_self_eq_false]
    exact ih n (x + 1) (by omega) (by omega) (by omega) (by omega)
theorem law5_0 (v : Race × List Int) (h : Dom5_0 v) : F5_0 v = some true := by
  obtain ⟨r, p⟩ := v
  show E5_0 (K5_0 1000) (r, p) = _
  by_cases hl : r.2.2.1.length ≤ 200
  · by_cases hp : p.length ≤ 200
    · have f20 := F20_eq r hl
      have f21 := F21_eq r hl
      obtain ⟨res, h17, h18⟩ := time_eq r hl p hp
      have hk := K5_eq r hl
      have hr : ∀ hok : okR r = true, K5_0 1000 (-1, r) = some true := fun hok => hk (okR_laps hok).2.1 104 1000 (-1) (by decide) (by omega) (by omega) (by omega)
      obtain ⟨laps, base, old, heavy, stop, most⟩ := r
      simp only at hl
      have c1 : decide ((old.length : Int) ≤ 200) = true := by simp; omega
      have c2 : decide ((p.length : Int) > 200) = false := by simp; omega
      have c3 : (!(res.2 == res.2)) = false := by simp
      simp only [E5_0, F16_0, c1, c2, F19_0, h17, h18, f20, f21, Option.bind_some, Bool.not_true, bne_self_eq_false, c3]
      cases hok : okR (laps, base, old, heavy, stop, most) with
      | false =>
        have c4 : ((40 : Int) != 0) = true := rfl
        simp only [Bool.false_eq_true, if_false, c4, awake47, Option.bind_some]
      | true =>
        have c4 : ((0 : Int) != 0) = false := rfl
        simp only [if_true, c4]
        exact hr hok
    · have c1 : decide ((p.length : Int) > 200) = true := by simp; omega
      obtain ⟨laps, base, old, heavy, stop, most⟩ := r
      simp only [E5_0, F16_0, Option.bind_some, c1]
      cases (!decide ((old.length : Int) ≤ 200)) <;> rfl
  · have c1 : decide ((r.2.2.1.length : Int) ≤ 200) = false := by simp; omega
    obtain ⟨laps, base, old, heavy, stop, most⟩ := r
    simp only [E5_0, F16_0, Option.bind_some, c1, Bool.not_false]
end Go.Proofs.Ythlnocpbdhcnlaa.Ev
