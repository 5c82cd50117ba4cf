/- PlanMore: what its function computes is true, whatever comes in. -/
import Derived.Test.YthlnocpbdhcnlaaMPlanLeast
set_option linter.unusedVariables false
set_option linter.unusedSimpArgs false
namespace Go.Proofs.Ythlnocpbdhcnlaa.Ev
open Go
theorem cs_mono {st : Nat → Int} {L M M' : Int} (h : M ≤ M') : ∀ (q : List Int) (a c : Int), cs st L M q a = some c → cs st L M' q a = some c := by
  intro q
  induction q with
  | nil =>
    intro a c hc
    unfold cs at hc ⊢
    split at hc
    · rename_i hh
      rw [if_pos ⟨hh.1, by omega⟩]; exact hc
    · cases hc
  | cons t q ih =>
    intro a c hc
    unfold cs at hc ⊢
    split at hc
    · rename_i hh
      obtain ⟨c', h1, rfl⟩ := Option.map_eq_some_iff.1 hc
      rw [if_pos ⟨hh.1, hh.2.1, by omega⟩, ih t c' h1]; rfl
    · cases hc
/-- A race that lets more through: its best plan takes no longer. -/
theorem best_le {laps base : Int} {old : List Int} {heavy stop most stop' most' : Int} (hok : okR (laps, base, old, heavy, stop, most) = true) (hok' : okR (laps, base, old, heavy, stop', most') = true) (hm : most ≤ most') (hs : stop' ≤ stop) :
    ∃ q t q' t', F25_0 (laps, base, old, heavy, stop, most) = some ((t, true), q) ∧ F25_0 (laps, base, old, heavy, stop', most') = some ((t', true), q') ∧ t' ≤ t := by
  obtain ⟨q, t, h1, h2, h3, _⟩ := best_of hok
  obtain ⟨q', t', k1, k2, k3, k4⟩ := best_of hok'
  refine ⟨q, t, q', t', h1, k1, ?_⟩
  have e1 := F17_cs hok q h3
  have e2 := F17_cs hok' q h3
  have hst : stintF (laps, base, old, heavy, stop', most') = stintF (laps, base, old, heavy, stop, most) := rfl
  rw [hst] at e2
  simp only at e1 e2
  rw [h2] at e1
  cases hc : cs (stintF (laps, base, old, heavy, stop, most)) laps most q 0 with
  | none => rw [hc] at e1; simp at e1
  | some c =>
    rw [hc] at e1
    rw [cs_mono hm q 0 c hc] at e2
    simp only [Option.some.injEq, Prod.mk.injEq, and_true] at e1
    obtain ⟨w, ok, k5, k6⟩ := k4 q h3
    rw [e2] at k5
    simp only [Option.some.injEq, Prod.mk.injEq] at k5
    have k7 := k6 k5.2.symm
    have hmul : (q.length : Int) * stop' ≤ (q.length : Int) * stop := Int.mul_le_mul_of_nonneg_left hs (by omega)
    omega
theorem law8_0 (v : Race × Int × Int) (h : Dom8_0 v) : F8_0 v = some true := by
  obtain ⟨r, more, less⟩ := v
  by_cases hl : r.2.2.1.length ≤ 200
  · have f20 := F20_eq r hl
    obtain ⟨laps, base, old, heavy, stop, most⟩ := r
    simp only at hl
    have c1 : decide ((old.length : Int) ≤ 200) = true := by simp; omega
    cases hok : okR (laps, base, old, heavy, stop, most) with
    | false =>
      have c4 : ((40 : Int) != 0) = true := rfl
      simp only [F8_0, F16_0, c1, f20, hok, Option.bind_some, Bool.not_true, Bool.false_eq_true, if_false, c4, awake47]
    | true =>
      have hr := okR_inv hok
      have hm := hr.most
      have hs := hr.stop
      simp only at hm hs
      have c4 : ((0 : Int) != 0) = false := rfl
      have hw : IntKind.wrap .i64 (100 - most) = 100 - most := W_in _ (by omega) (by omega)
      simp only [F8_0, F16_0, c1, f20, hok, Option.bind_some, Bool.not_true, if_true, c4, hw]
      by_cases d1 : more < 0
      · simp only [d1, decide_true, awake47, Option.bind_some]
      · by_cases d2 : more > 100 - most
        · simp only [d1, d2, decide_true, decide_false, awake47, Option.bind_some]
        · by_cases d3 : less < 0
          · simp only [d1, d2, d3, decide_true, decide_false, awake47, Option.bind_some]
          · by_cases d4 : less > stop
            · simp only [d1, d2, d3, d4, decide_true, decide_false, awake47, Option.bind_some]
            · have w1 : IntKind.wrap .i64 (most + more) = most + more := W_in _ (by omega) (by omega)
              have w2 : IntKind.wrap .i64 (stop - less) = stop - less := W_in _ (by omega) (by omega)
              have ok1 : okR (laps, base, old, heavy, stop, most + more) = true := by
                unfold okR at hok ⊢
                simp only [Bool.and_eq_true, decide_eq_true_eq] at hok ⊢
                exact ⟨by omega, hok.2⟩
              have ok2 : okR (laps, base, old, heavy, stop - less, most) = true := by
                unfold okR at hok ⊢
                simp only [Bool.and_eq_true, decide_eq_true_eq] at hok ⊢
                refine ⟨hok.1, hok.2.1, hok.2.2.1, ?_, hok.2.2.2.2⟩
                have : oddB (stop - less) = false := by
                  unfold oddB
                  simp only [Bool.or_eq_false_iff, decide_eq_false_iff_not]
                  omega
                rw [this]; rfl
              obtain ⟨q, t, qa, u, h1, h2, h3⟩ := best_le hok ok1 (by omega) (Int.le_refl _)
              obtain ⟨q', t2, qb, v, k1, k2, k3⟩ := best_le hok ok2 (Int.le_refl _) (by omega)
              have ht : t = t2 := by
                rw [h1] at k1
                simp only [Option.some.injEq, Prod.mk.injEq] at k1
                exact k1.1.1
              subst ht
              have e1 : decide (u ≤ t) = true := by simp only [decide_eq_true_eq]; exact h3
              have e2 : decide (v ≤ t) = true := by simp only [decide_eq_true_eq]; exact k3
              simp only [d1, d2, d3, d4, decide_false, w1, w2, h1, h2, k2, Option.bind_some, e1, e2, awake47]
  · have c1 : decide ((r.2.2.1.length : Int) ≤ 200) = false := by simp; omega
    obtain ⟨laps, base, old, heavy, stop, most⟩ := r
    simp only [F8_0, F16_0, Option.bind_some, c1, Bool.not_false, awake47]
end Go.Proofs.Ythlnocpbdhcnlaa.Ev
