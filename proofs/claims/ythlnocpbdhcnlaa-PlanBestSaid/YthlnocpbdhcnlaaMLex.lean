/- Of the plans that are least, the table's is the one that comes first in the document's order. -/
import Derived.Test.YthlnocpbdhcnlaaMPlanLeast
set_option linter.unusedVariables false
set_option linter.unusedSimpArgs false
namespace Go.Proofs.Ythlnocpbdhcnlaa.Ev
open Go
/-- Where two lists first differ, the first one's number is greater. -/
def lexGt : List Int → List Int → Bool
  | x :: a, y :: b => if x = y then lexGt a b else decide (x > y)
  | _, _ => false
/-- No worse, and behind that no shorter first stint. -/
def noWorse3 (a b : Rest) : Prop := a.1 < b.1 ∨ (a.1 = b.1 ∧ (a.2.1 < b.2.1 ∨ (a.2.1 = b.2.1 ∧ b.2.2 ≤ a.2.2)))
theorem noWorse3.refl (a : Rest) : noWorse3 a a := .inr ⟨rfl, .inr ⟨rfl, Int.le_refl _⟩⟩
theorem noWorse3.trans {a b c : Rest} (h : noWorse3 a b) (k : noWorse3 b c) : noWorse3 a c := by
  unfold noWorse3 at *; omega
theorem ahead3 {a b : Rest} (h : aheadB a b = true) : noWorse3 a b := by
  unfold aheadB at h
  unfold noWorse3
  split at h
  · split at h <;> simp only [decide_eq_true_eq] at h <;> omega
  · simp only [decide_eq_true_eq] at h; omega
theorem behind3 {a b : Rest} (h : aheadB a b = false) : noWorse3 b a := by
  unfold aheadB at h
  unfold noWorse3
  split at h
  · split at h <;> simp only [decide_eq_false_iff_not] at h <;> omega
  · simp only [decide_eq_false_iff_not] at h; omega
section
variable {st : Nat → Int} {S : Int}
theorem rowF_least3 (b : List Rest) (left : Nat) : ∀ (n m : Nat), 1 ≤ m → m ≤ n → noWorse3 (rowF st S b left n) (cand st S b left m) := by
  intro n
  induction n with
  | zero => intro m h1 h2; omega
  | succ n ih =>
    intro m h1 h2
    cases n with
    | zero => obtain rfl : m = 1 := by omega
              exact noWorse3.refl _
    | succ n =>
      simp only [rowF]
      cases hb : aheadB (cand st S b left (n + 2)) (rowF st S b left (n + 1)) with
      | true =>
        simp only [if_true]
        by_cases hm : m = n + 2
        · subst hm; exact noWorse3.refl _
        · exact (ahead3 hb).trans (ih m h1 (by omega))
      | false =>
        simp only [Bool.false_eq_true, if_false]
        by_cases hm : m = n + 2
        · subst hm; exact behind3 hb
        · exact ih m h1 (by omega)
theorem rest_le3 (M : Nat) (hM : 1 ≤ M) (i m : Nat) (h1 : 1 ≤ m) (h2 : m ≤ i) (h3 : m ≤ M) :
    noWorse3 (rest st S M i) (st m + (rest st S M (i - m)).1 + (if i > m then S else 0), ((rest st S M (i - m)).2.1 + 1, (m : Int))) := by
  obtain ⟨k, rfl⟩ : ∃ k, i = k + 1 := ⟨i - 1, by omega⟩
  rw [rest_succ, ← cand_rest M k m h1 h2]
  exact rowF_least3 _ _ _ m h1 (by omega)
/-- The stops that the table tells behind a lap. -/
def after (st : Nat → Int) (S : Int) (M L : Nat) (f a : Nat) : List Int := stopsF (Bs st S M L) L f (a + (firstF (Bs st S M L) (L - a)).toNat)
theorem first_rest (M L a : Nat) : firstF (Bs st S M L) (L - a) = (rest st S M (L - a)).2.2 := by
  unfold firstF
  rw [Bs_get M L (L - a) (by omega)]
  rfl
theorem lex_least (hf : Fits st S) (M L : Nat) (hM : 1 ≤ M) (h100 : L ≤ 100) : ∀ (q : List Int) (f a : Nat) (c : Int), a < L → L - a ≤ f → cs st L M q a = some c →
    (rest st S M (L - a)).1 < c + (q.length : Int) * S ∨ ((rest st S M (L - a)).1 = c + (q.length : Int) * S ∧ ((rest st S M (L - a)).2.1 < (q.length : Int) + 1 ∨ ((rest st S M (L - a)).2.1 = (q.length : Int) + 1 ∧ (after st S M L f a = q ∨ lexGt (after st S M L f a) q = true)))) := by
  intro q
  induction q with
  | nil =>
    intro f a c h0 hfa h
    unfold cs at h
    split at h
    · rename_i hc
      obtain rfl := Option.some.inj h
      have h1 := rest_le3 (st := st) (S := S) M hM (L - a) (L - a) (by omega) (by omega) (by omega)
      have e : (L - a) - (L - a) = 0 := by omega
      rw [e, rest_zero, if_neg (by omega)] at h1
      have e2 : ((L : Int) - (a : Int)).toNat = L - a := by omega
      rw [e2]
      unfold noWorse3 z3 at h1
      simp only [List.length_nil] at h1 ⊢
      rcases h1 with h1 | ⟨h1, h2 | ⟨h2, h3⟩⟩
      · left; omega
      · right; exact ⟨by omega, .inl (by omega)⟩
      · right
        refine ⟨by omega, .inr ⟨by omega, .inl ?_⟩⟩
        obtain ⟨g, rfl⟩ : ∃ g, f = g + 1 := ⟨f - 1, by omega⟩
        unfold after
        rw [first_rest]
        have : ¬ (a + (rest st S M (L - a)).2.2.toNat < L) := by omega
        simp only [stopsF, this, if_false]
    · cases h
  | cons t q ih =>
    intro f a c h0 hfa h
    unfold cs at h
    split at h
    · rename_i hc
      obtain ⟨c', h1, rfl⟩ := Option.map_eq_some_iff.1 h
      have hlt := cs_lt h1
      obtain ⟨b, rfl⟩ := Int.eq_ofNat_of_zero_le (show 0 ≤ t by omega)
      have hb : a < b ∧ b < L := by omega
      have e1 : (((b : Nat) : Int) - (a : Int)).toNat = b - a := by omega
      rw [e1]
      obtain ⟨g, rfl⟩ : ∃ g, f = g + 1 := ⟨f - 1, by omega⟩
      have h2 := ih g b c' hb.2 (by omega) h1
      have h3 := rest_le3 (st := st) (S := S) M hM (L - a) (b - a) (by omega) (by omega) (by omega)
      have e : (L - a) - (b - a) = L - b := by omega
      rw [e, if_pos (by omega)] at h3
      have hro := read_off hf M L hM h100 (g + 1) a h0 hfa
      obtain ⟨c0, _, _, hlen⟩ := hro
      have hlen' : ((after st S M L (g + 1) a).length : Int) + 1 = (rest st S M (L - a)).2.1 := hlen
      rw [List.length_cons, mul_succ]
      have e2 : ((q.length + 1 : Nat) : Int) = (q.length : Int) + 1 := by omega
      rw [e2]
      unfold noWorse3 at h3
      simp only at h3
      rcases h3 with h3 | ⟨h3, h4 | ⟨h4, h5⟩⟩
      · left; omega
      · rcases h2 with h2 | ⟨h2, h6 | ⟨h6, h7⟩⟩
        · left; omega
        · right; exact ⟨by omega, .inl (by omega)⟩
        · right; exact ⟨by omega, .inl (by omega)⟩
      · rcases h2 with h2 | ⟨h2, h6 | ⟨h6, h7⟩⟩
        · left; omega
        · right; exact ⟨by omega, .inl (by omega)⟩
        · right
          refine ⟨by omega, .inr ⟨by omega, ?_⟩⟩
          have hff := first_rest (st := st) (S := S) M L a
          by_cases hlast : a + (rest st S M (L - a)).2.2.toNat < L
          · have hs : after st S M L (g + 1) a = ((a + (rest st S M (L - a)).2.2.toNat : Nat) : Int) :: after st S M L g (a + (rest st S M (L - a)).2.2.toNat) := by
              unfold after
              rw [hff]
              have h0 : a + (rest st S M (L - a)).2.2.toNat > 0 := by omega
              simp only [stopsF, hlast, h0, if_true, List.cons_append, List.nil_append]
            rw [hs]
            by_cases heq : a + (rest st S M (L - a)).2.2.toNat = b
            · rw [heq]
              rcases h7 with h7 | h7
              · left; rw [h7]
              · right; simp only [lexGt, if_true]; exact h7
            · right
              have hne : ¬ (((a + (rest st S M (L - a)).2.2.toNat : Nat) : Int) = ((b : Nat) : Int)) := by omega
              simp only [lexGt, hne, if_false, decide_eq_true_eq]
              omega
          · have hs : after st S M L (g + 1) a = [] := by
              unfold after
              rw [hff]
              simp only [stopsF, hlast, if_false]
            rw [hs] at hlen'
            simp only [List.length_nil] at hlen'
            omega
    · cases h
end
end Go.Proofs.Ythlnocpbdhcnlaa.Ev
