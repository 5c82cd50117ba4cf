/- The table's rests are least, and the plan that is read off takes just that. -/
import Derived.Test.YthlnocpbdhcnlaaMLeast
set_option linter.unusedVariables false
set_option linter.unusedSimpArgs false
namespace Go.Proofs.Ythlnocpbdhcnlaa.Ev
open Go
/-- No worse: less time, or as much and no more stints. -/
def noWorse (a b : Rest) : Prop := a.1 < b.1 ∨ (a.1 = b.1 ∧ a.2.1 ≤ b.2.1)
theorem noWorse.refl (a : Rest) : noWorse a a := .inr ⟨rfl, Int.le_refl _⟩
theorem noWorse.trans {a b c : Rest} (h : noWorse a b) (k : noWorse b c) : noWorse a c := by
  unfold noWorse at *; omega
theorem ahead_noWorse {a b : Rest} (h : aheadB a b = true) : noWorse a b := by
  unfold aheadB at h
  unfold noWorse
  split at h
  · split at h
    · omega
    · simp only [decide_eq_true_eq] at h; omega
  · simp only [decide_eq_true_eq] at h; omega
theorem behind_noWorse {a b : Rest} (h : aheadB a b = false) : noWorse b a := by
  unfold aheadB at h
  unfold noWorse
  split at h
  · split at h
    · omega
    · simp only [decide_eq_false_iff_not] at h; omega
  · simp only [decide_eq_false_iff_not] at h; omega
section
variable {st : Nat → Int} {S : Int}
theorem rowF_least (b : List Rest) (left : Nat) : ∀ (n m : Nat), 1 ≤ m → m ≤ n → noWorse (rowF st S b left n) (cand st S b left m) := by
  intro n
  induction n with
  | zero => intro m h1 h2; omega
  | succ n ih =>
    intro m h1 h2
    cases n with
    | zero => obtain rfl : m = 1 := by omega
              exact noWorse.refl _
    | succ n =>
      simp only [rowF]
      cases hb : aheadB (cand st S b left (n + 2)) (rowF st S b left (n + 1)) with
      | true =>
        simp only [if_true]
        by_cases hm : m = n + 2
        · subst hm; exact noWorse.refl _
        · exact (ahead_noWorse hb).trans (ih m h1 (by omega))
      | false =>
        simp only [Bool.false_eq_true, if_false]
        by_cases hm : m = n + 2
        · subst hm; exact behind_noWorse hb
        · exact ih m h1 (by omega)
theorem rowF_some (b : List Rest) (left : Nat) : ∀ n, 1 ≤ n → ∃ m, 1 ≤ m ∧ m ≤ n ∧ rowF st S b left n = cand st S b left m := by
  intro n
  induction n with
  | zero => intro h; omega
  | succ n ih =>
    intro _
    cases n with
    | zero => exact ⟨1, by omega, by omega, rfl⟩
    | succ n =>
      simp only [rowF]
      split
      · exact ⟨n + 2, by omega, by omega, rfl⟩
      · obtain ⟨m, h1, h2, h3⟩ := ih (by omega)
        exact ⟨m, h1, by omega, h3⟩
theorem Bs_get (M : Nat) : ∀ (k j : Nat), j ≤ k → (Bs st S M k).getD j z3 = (Bs st S M j).getD j z3 := by
  intro k
  induction k with
  | zero => intro j h; obtain rfl : j = 0 := by omega
            rfl
  | succ k ih =>
    intro j h
    by_cases hc : j ≤ k
    · rw [← ih j hc]
      have hl := Bs_length st S M k
      simp only [Bs, List.getD_eq_getElem?_getD]
      rw [List.getElem?_append_left (by omega)]
    · obtain rfl : j = k + 1 := by omega
      rfl
/-- The rest with so many laps to go. -/
def rest (st : Nat → Int) (S : Int) (M i : Nat) : Rest := (Bs st S M i).getD i z3
theorem rest_zero (M : Nat) : rest st S M 0 = z3 := rfl
theorem rest_succ (M k : Nat) : rest st S M (k + 1) = rowF st S (Bs st S M k) (k + 1) (min (k + 1) M) := by
  unfold rest
  have hl := Bs_length st S M k
  simp only [Bs, List.getD_eq_getElem?_getD]
  rw [List.getElem?_append_right (by omega), hl, Nat.sub_self]
  rfl
theorem cand_rest (M k m : Nat) (h1 : 1 ≤ m) (h2 : m ≤ k + 1) : cand st S (Bs st S M k) (k + 1) m = (st m + (rest st S M (k + 1 - m)).1 + (if k + 1 > m then S else 0), ((rest st S M (k + 1 - m)).2.1 + 1, (m : Int))) := by
  unfold cand rest
  rw [Bs_get M k (k + 1 - m) (by omega)]
theorem rest_le (M : Nat) (hM : 1 ≤ M) (i m : Nat) (h1 : 1 ≤ m) (h2 : m ≤ i) (h3 : m ≤ M) :
    noWorse (rest st S M i) (st m + (rest st S M (i - m)).1 + (if i > m then S else 0), ((rest st S M (i - m)).2.1 + 1, (m : Int))) := by
  obtain ⟨k, rfl⟩ : ∃ k, i = k + 1 := ⟨i - 1, by omega⟩
  rw [rest_succ, ← cand_rest M k m h1 h2]
  exact rowF_least _ _ _ m h1 (by omega)
theorem rest_is (M : Nat) (hM : 1 ≤ M) (i : Nat) (hi : 1 ≤ i) : ∃ m, 1 ≤ m ∧ m ≤ i ∧ m ≤ M ∧ rest st S M i = (st m + (rest st S M (i - m)).1 + (if i > m then S else 0), ((rest st S M (i - m)).2.1 + 1, (m : Int))) := by
  obtain ⟨k, rfl⟩ : ∃ k, i = k + 1 := ⟨i - 1, by omega⟩
  rw [rest_succ]
  obtain ⟨m, h1, h2, h3⟩ := rowF_some (st := st) (S := S) (Bs st S M k) (k + 1) (min (k + 1) M) (by omega)
  rw [h3, cand_rest M k m h1 (by omega)]
  exact ⟨m, h1, by omega, by omega, rfl⟩
theorem mul_succ (n : Nat) : (((n + 1 : Nat) : Int)) * S = (n : Int) * S + S := by
  have : ((n + 1 : Nat) : Int) = (n : Int) + 1 := by omega
  rw [this, Int.add_mul, Int.one_mul]
/-- No plan is better than the table. -/
theorem least (M : Nat) (hM : 1 ≤ M) (L : Int) : ∀ (q : List Int) (a c : Int), 0 ≤ a → cs st L M q a = some c → noWorse (rest st S M (L - a).toNat) (c + (q.length : Int) * S, ((q.length : Int) + 1, 0)) := by
  intro q
  induction q with
  | nil =>
    intro a c h0 h
    unfold cs at h
    split at h
    · rename_i hc
      obtain rfl := Option.some.inj h
      have h1 := rest_le (st := st) (S := S) M hM (L - a).toNat (L - a).toNat (by omega) (by omega) (by omega)
      have e : (L - a).toNat - (L - a).toNat = 0 := by omega
      rw [e, rest_zero, if_neg (by omega)] at h1
      unfold noWorse z3 at *
      simp only [List.length_nil] at h1 ⊢
      omega
    · cases h
  | cons t q ih =>
    intro a c h0 h
    unfold cs at h
    split at h
    · rename_i hc
      obtain ⟨c', h1, rfl⟩ := Option.map_eq_some_iff.1 h
      have hlt := cs_lt h1
      have h2 := ih t c' (by omega) h1
      have h3 := rest_le (st := st) (S := S) M hM (L - a).toNat (t - a).toNat (by omega) (by omega) (by omega)
      have e : (L - a).toNat - (t - a).toNat = (L - t).toNat := by omega
      rw [e, if_pos (by omega)] at h3
      refine h3.trans ?_
      rw [List.length_cons, mul_succ]
      have e2 : ((q.length + 1 : Nat) : Int) = (q.length : Int) + 1 := by omega
      rw [e2]
      unfold noWorse at h2 ⊢
      simp only at h2 ⊢
      omega
    · cases h
/-- The plan that is read off takes what the table tells. -/
theorem read_off (hf : Fits st S) (M L : Nat) (hM : 1 ≤ M) (h100 : L ≤ 100) : ∀ (f a : Nat), a < L → L - a ≤ f → ∃ c, cs st L M (stopsF (Bs st S M L) L f (a + (firstF (Bs st S M L) (L - a)).toNat)) a = some c ∧
    c + ((stopsF (Bs st S M L) L f (a + (firstF (Bs st S M L) (L - a)).toNat)).length : Int) * S = (rest st S M (L - a)).1 ∧ ((stopsF (Bs st S M L) L f (a + (firstF (Bs st S M L) (L - a)).toNat)).length : Int) + 1 = (rest st S M (L - a)).2.1 := by
  intro f
  induction f with
  | zero => intro a h1 h2; omega
  | succ f ih =>
    intro a h1 h2
    obtain ⟨m, m1, m2, m3, hm⟩ := rest_is (st := st) (S := S) M hM (L - a) (by omega)
    have hfirst : (firstF (Bs st S M L) (L - a)).toNat = m := by
      unfold firstF
      rw [Bs_get M L (L - a) (by omega)]
      have : (Bs st S M (L - a)).getD (L - a) z3 = rest st S M (L - a) := rfl
      rw [this, hm]
      simp
    rw [hfirst]
    by_cases hlt : a + m < L
    · have hs : stopsF (Bs st S M L) L (f + 1) (a + m) = ((a + m : Nat) : Int) :: stopsF (Bs st S M L) L f (a + m + (firstF (Bs st S M L) (L - (a + m))).toNat) := by
        have h0 : a + m > 0 := by omega
        simp only [stopsF, hlt, h0, if_true, List.cons_append, List.nil_append]
      obtain ⟨c, h3, h4, h5⟩ := ih (a + m) hlt (by omega)
      have e : L - a - m = L - (a + m) := by omega
      rw [e, if_pos (by omega)] at hm
      refine ⟨st m + c, ?_, ?_, ?_⟩
      · rw [hs]
        unfold cs
        have hc : (a : Int) < ((a + m : Nat) : Int) ∧ ((a + m : Nat) : Int) ≤ (L : Int) ∧ ((a + m : Nat) : Int) - (a : Int) ≤ (M : Int) := by omega
        rw [if_pos hc, h3]
        have em : (((a + m : Nat) : Int) - (a : Int)).toNat = m := by omega
        rw [em]; rfl
      · rw [hs, List.length_cons, mul_succ, hm]
        simp only
        omega
      · rw [hs, List.length_cons, hm]
        simp only
        omega
    · have hs : stopsF (Bs st S M L) L (f + 1) (a + m) = [] := by simp only [stopsF, hlt, if_false]
      have e0 : L - a - m = 0 := by omega
      rw [e0, rest_zero, if_neg (by omega)] at hm
      refine ⟨st (L - a), ?_, ?_, ?_⟩
      · rw [hs]
        unfold cs
        have hc : (a : Int) < (L : Int) ∧ (L : Int) - (a : Int) ≤ (M : Int) := by omega
        rw [if_pos hc]
        have em : ((L : Int) - (a : Int)).toNat = L - a := by omega
        rw [em]
      · rw [hs, hm]
        have em : m = L - a := by omega
        simp [z3, em]
      · rw [hs, hm]
        simp [z3]
end
end Go.Proofs.Ythlnocpbdhcnlaa.Ev
