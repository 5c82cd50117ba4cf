/- PlanLeast: what its function computes is true, whatever comes in. -/
import Derived.Test.YthlnocpbdhcnlaaMLeast2
import Derived.Test.YthlnocpbdhcnlaaMPlanTimes
set_option linter.unusedVariables false
set_option linter.unusedSimpArgs false
namespace Go.Proofs.Ythlnocpbdhcnlaa.Ev
open Go
theorem F25_no {r : Race} (hl : r.2.2.1.length ≤ 200) (hok : okR r = false) : F25_0 r = some (((0 : Int), false), ([] : List Int)) := by
  have f20 := F20_eq r hl
  obtain ⟨laps, base, old, heavy, stop, most⟩ := r
  show E25_0 (K25_0 20000) _ = _
  have c4 : ((40 : Int) != 0) = true := rfl
  simp only [E25_0, f20, hok, Option.bind_some, Bool.false_eq_true, if_false, c4]
/-- The best plan of a race: its stops, its time; it goes, takes just that, and none is better. -/
theorem best_of {r : Race} (hok : okR r = true) : ∃ (q : List Int) (t : Int), F25_0 r = some ((t, true), q) ∧ F17_0 (r, q) = some (t, true) ∧ q.length ≤ 200 ∧
    ∀ p : List Int, p.length ≤ 200 → ∃ v ok, F17_0 (r, p) = some (v, ok) ∧ (ok = true → t < v ∨ (t = v ∧ q.length ≤ p.length)) := by
  have h := okR_inv hok
  have hf := fits_of h
  have hl := h.laps
  have hm := h.most
  have h25 := F25_eq hok
  have hle := fun (p : List Int) (c : Int) => least (st := stintF r) (S := r.2.2.2.2.1) r.2.2.2.2.2.toNat (by omega) r.1 p 0 c (by omega)
  have hL : ((r.1.toNat : Nat) : Int) = r.1 := Int.toNat_of_nonneg (by omega)
  have hM : ((r.2.2.2.2.2.toNat : Nat) : Int) = r.2.2.2.2.2 := Int.toNat_of_nonneg (by omega)
  rw [hM] at hle
  obtain ⟨c, h1, h2, h3⟩ := read_off hf r.2.2.2.2.2.toNat r.1.toNat (by omega) (by omega) r.1.toNat 0 (by omega) (by omega)
  have hst : stopsF (tableOf r) r.1.toNat (r.1.toNat + 1) 0 = stopsF (tableOf r) r.1.toNat r.1.toNat (0 + (firstF (tableOf r) (r.1.toNat - 0)).toNat) := by
    have : (0 : Nat) < r.1.toNat := by omega
    simp only [stopsF, this, if_true, Nat.lt_irrefl, gt_iff_lt, if_false, List.nil_append]
  rw [hst] at h25
  have htab : tableOf r = Bs (stintF r) r.2.2.2.2.1 r.2.2.2.2.2.toNat r.1.toNat := rfl
  rw [htab] at h25
  rw [Nat.sub_zero] at h1 h2 h3 h25
  generalize hq : stopsF (Bs (stintF r) r.2.2.2.2.1 r.2.2.2.2.2.toNat r.1.toNat) r.1.toNat r.1.toNat (0 + (firstF (Bs (stintF r) r.2.2.2.2.1 r.2.2.2.2.2.toNat r.1.toNat) r.1.toNat).toNat) = q at h1 h2 h3 h25
  have hrest : (Bs (stintF r) r.2.2.2.2.1 r.2.2.2.2.2.toNat r.1.toNat).getD r.1.toNat z3 = rest (stintF r) r.2.2.2.2.1 r.2.2.2.2.2.toNat r.1.toNat := rfl
  rw [hrest] at h25
  have hr := Bs_ok hf (M := r.2.2.2.2.2.toNat) (by omega) r.1.toNat (by omega) r.1.toNat (Nat.le_refl _)
  rw [hrest] at hr
  have hs := hr.shi
  rw [hL, hM] at h1
  have hql : q.length ≤ 200 := by omega
  have h17 := F17_cs hok q hql
  have h0 : ((0 : Nat) : Int) = 0 := rfl
  rw [h0] at h1
  rw [h1] at h17
  simp only at h17
  refine ⟨q, (rest (stintF r) r.2.2.2.2.1 r.2.2.2.2.2.toNat r.1.toNat).1, h25, ?_, hql, fun p hp => ?_⟩
  · rw [h17, ← h2, Int.add_comm]
  · have h17p := F17_cs hok p hp
    cases hc : cs (stintF r) r.1 r.2.2.2.2.2 p 0 with
    | none => rw [hc] at h17p; exact ⟨0, false, h17p, fun h => by cases h⟩
    | some c' =>
      rw [hc] at h17p
      refine ⟨_, true, h17p, fun _ => ?_⟩
      have hn := hle p c' hc
      rw [Int.sub_zero] at hn
      unfold noWorse at hn
      simp only at hn
      omega
theorem law7_0 (v : Race × List Int) (h : Dom7_0 v) : F7_0 v = some true := by
  obtain ⟨r, p⟩ := v
  by_cases hl : r.2.2.1.length ≤ 200
  · by_cases hp : p.length ≤ 200
    · have f20 := F20_eq r hl
      have hbest := fun hok => best_of (r := r) hok
      have hno := fun hok => F25_no (r := r) hl hok
      obtain ⟨laps, base, old, heavy, stop, most⟩ := r
      simp only at hl
      have c1 : decide ((old.length : Int) ≤ 200) = true := by simp; omega
      have c2 : decide ((p.length : Int) > 200) = false := by simp; omega
      cases hok : okR (laps, base, old, heavy, stop, most) with
      | false =>
        have c4 : ((40 : Int) != 0) = true := rfl
        have c5 : (((([] : List Int).length : Int)) == 0) = true := rfl
        simp only [F7_0, F16_0, c1, c2, hno hok, f20, hok, Option.bind_some, Bool.not_true, Bool.false_eq_true, if_false, c4, Bool.not_false, c5, awake47]
      | true =>
        obtain ⟨q, t, h25, h17, hq, hall⟩ := hbest hok
        obtain ⟨w, ok, hp17, hw⟩ := hall p hp
        have c4 : ((0 : Int) != 0) = false := rfl
        have c6 : (t == t) = true := by simp
        simp only [F7_0, F16_0, c1, c2, h25, h17, hp17, f20, hok, Option.bind_some, Bool.not_true, if_true, c4, c6, awake47]
        cases ok with
        | false => rfl
        | true =>
          have hw := hw rfl
          have d1 : decide (w ≥ t) = true := by simp only [decide_eq_true_eq]; omega
          simp only [Bool.not_true, d1]
          by_cases hgt : w > t
          · simp only [hgt, decide_true]
          · have d2 : decide ((p.length : Int) ≥ (q.length : Int)) = true := by simp only [decide_eq_true_eq]; omega
            simp only [hgt, decide_false, d2]
    · have c1 : decide ((p.length : Int) > 200) = true := by simp; omega
      obtain ⟨laps, base, old, heavy, stop, most⟩ := r
      simp only [F7_0, F16_0, Option.bind_some, c1]
      cases (!decide ((old.length : Int) ≤ 200)) <;> rfl
  · have c1 : decide ((r.2.2.1.length : Int) ≤ 200) = false := by simp; omega
    obtain ⟨laps, base, old, heavy, stop, most⟩ := r
    simp only [F7_0, F16_0, Option.bind_some, c1, Bool.not_false]
end Go.Proofs.Ythlnocpbdhcnlaa.Ev
