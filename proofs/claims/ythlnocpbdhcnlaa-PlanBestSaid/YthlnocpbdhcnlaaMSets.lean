/- Sets of laps as numbers: each plan that goes is one of them. -/
import Derived.Test.YthlnocpbdhcnlaaMLex
set_option linter.unusedVariables false
set_option linter.unusedSimpArgs false
namespace Go.Proofs.Ythlnocpbdhcnlaa.Ev
open Go
/-- The laps of a set, from one on. -/
def planF (s : Nat) : Nat → Nat → List Int
  | 0, _ => []
  | d + 1, lo => (if s.testBit lo then [((lo + 1 : Nat) : Int)] else []) ++ planF s d (lo + 1)
theorem planF_snoc (s : Nat) : ∀ (d lo : Nat), planF s (d + 1) lo = planF s d lo ++ (if s.testBit (lo + d) then [((lo + d + 1 : Nat) : Int)] else []) := by
  intro d
  induction d with
  | zero => intro lo; simp [planF]
  | succ d ih =>
    intro lo
    have h := ih (lo + 1)
    have e : lo + 1 + d = lo + (d + 1) := by omega
    have e0 : planF s (d + 1 + 1) lo = (if s.testBit lo then [((lo + 1 : Nat) : Int)] else []) ++ planF s (d + 1) (lo + 1) := rfl
    have e1 : planF s (d + 1) lo = (if s.testBit lo then [((lo + 1 : Nat) : Int)] else []) ++ planF s d (lo + 1) := rfl
    rw [e0, h, e1, e, List.append_assoc]
theorem bits_of (f : Nat → Bool) : ∀ n : Nat, ∃ s, s < 2 ^ n ∧ ∀ j, j < n → s.testBit j = f j := by
  intro n
  induction n with
  | zero => exact ⟨0, by simp, fun j h => by omega⟩
  | succ n ih =>
    obtain ⟨s, h1, h2⟩ := ih
    cases hf : f n with
    | false =>
      refine ⟨s, by rw [Nat.pow_succ]; omega, fun j hj => ?_⟩
      by_cases hc : j < n
      · exact h2 j hc
      · obtain rfl : j = n := by omega
        rw [hf, Nat.testBit_lt_two_pow h1]
    | true =>
      refine ⟨2 ^ n + s, by rw [Nat.pow_succ]; omega, fun j hj => ?_⟩
      by_cases hc : j < n
      · rw [Nat.testBit_two_pow_add_gt hc, h2 j hc]
      · obtain rfl : j = n := by omega
        rw [Nat.testBit_two_pow_add_eq, Nat.testBit_lt_two_pow h1, hf]
        rfl
/-- Rising numbers of a span. -/
def rises : List Int → Int → Int → Prop
  | [], _, _ => True
  | t :: q, a, n => a < t ∧ t ≤ n ∧ rises q t n
theorem rises_mem : ∀ {q : List Int} {a n x : Int}, rises q a n → x ∈ q → a < x := by
  intro q
  induction q with
  | nil => intro a n x _ h; simp at h
  | cons t q ih =>
    intro a n x h hx
    rcases List.mem_cons.1 hx with rfl | hx
    · exact h.1
    · have := ih h.2.2 hx; have := h.1; omega
theorem planF_of (s : Nat) : ∀ (d lo : Nat) (q : List Int), rises q (lo : Int) ((lo + d : Nat) : Int) → (∀ j, lo ≤ j → j < lo + d → s.testBit j = decide (((j + 1 : Nat) : Int) ∈ q)) → planF s d lo = q := by
  intro d
  induction d with
  | zero =>
    intro lo q h _
    cases q with
    | nil => rfl
    | cons t q => have := h.1; have := h.2.1; omega
  | succ d ih =>
    intro lo q h hb
    have h0 := hb lo (Nat.le_refl _) (by omega)
    simp only [planF, h0]
    cases q with
    | nil =>
      simp only [List.not_mem_nil, decide_false, Bool.false_eq_true, if_false, List.nil_append]
      exact ih (lo + 1) [] trivial fun j h1 h2 => hb j (by omega) (by omega)
    | cons t q =>
      obtain ⟨h1, h2, h3⟩ := h
      by_cases ht : t = ((lo + 1 : Nat) : Int)
      · subst ht
        have : ((lo + 1 : Nat) : Int) ∈ ((lo + 1 : Nat) : Int) :: q := List.mem_cons_self ..
        simp only [this, decide_true, if_true, List.cons_append, List.nil_append]
        congr 1
        refine ih (lo + 1) q (by have e : lo + 1 + d = lo + (d + 1) := by omega
                                 rw [e]; exact h3) fun j h4 h5 => ?_
        rw [hb j (by omega) (by omega)]
        have hne : ¬ ((j + 1 : Nat) : Int) = ((lo + 1 : Nat) : Int) := by omega
        simp [List.mem_cons, hne]
        omega
      · have hnot : ((lo + 1 : Nat) : Int) ∉ t :: q := by
          intro hm
          rcases List.mem_cons.1 hm with e | hm
          · exact ht e.symm
          · have := rises_mem h3 hm; omega
        simp only [hnot, decide_false, Bool.false_eq_true, if_false, List.nil_append]
        refine ih (lo + 1) (t :: q) ⟨by omega, by have e : lo + 1 + d = lo + (d + 1) := by omega
                                                  rw [e]; exact h2, by have e : lo + 1 + d = lo + (d + 1) := by omega
                                                                       rw [e]; exact h3⟩ fun j h4 h5 => hb j (by omega) (by omega)
theorem set_of {n : Nat} {q : List Int} (h : rises q 0 (n : Int)) : ∃ s, s < 2 ^ n ∧ planF s n 0 = q := by
  obtain ⟨s, h1, h2⟩ := bits_of (fun j => decide (((j + 1 : Nat) : Int) ∈ q)) n
  exact ⟨s, h1, planF_of s n 0 q (by simpa using h) fun j _ hj => h2 j (by omega)⟩
theorem cs_rises {st : Nat → Int} {L M : Int} : ∀ {q : List Int} {a c : Int}, cs st L M q a = some c → rises q a (L - 1) := by
  intro q
  induction q with
  | nil => intro a c _; trivial
  | cons t q ih =>
    intro a c h
    unfold cs at h
    split at h
    · rename_i hc
      obtain ⟨c', h1, _⟩ := Option.map_eq_some_iff.1 h
      have := cs_lt h1
      exact ⟨hc.1, by omega, ih h1⟩
    · cases h

/-! ### The document's order -/
def betterB (a : List Int) (x : Int) (b : List Int) (y : Int) : Bool := if x = y then (if a.length = b.length then lexGt a b else decide (a.length < b.length)) else decide (x < y)
theorem lexGt_trans : ∀ {a b c : List Int}, lexGt a b = true → lexGt b c = true → lexGt a c = true := by
  intro a
  induction a with
  | nil => intro b c h; simp [lexGt] at h
  | cons x a ih =>
    intro b c h k
    cases b with
    | nil => simp [lexGt] at h
    | cons y b =>
      cases c with
      | nil => simp [lexGt] at k
      | cons z c =>
        simp only [lexGt] at h k ⊢
        split at h <;> split at k <;> split <;> simp_all <;> first | exact ih h k | omega
theorem betterB_trans {a b c : List Int} {x y z : Int} (h : betterB a x b y = true) (k : betterB b y c z = true) : betterB a x c z = true := by
  unfold betterB at *
  split at h <;> split at k
  · split at h <;> split at k
    · rw [if_pos (by omega), if_pos (by omega)]; exact lexGt_trans h k
    · simp only [decide_eq_true_eq] at k; rw [if_pos (by omega), if_neg (by omega)]; simp only [decide_eq_true_eq]; omega
    · simp only [decide_eq_true_eq] at h; rw [if_pos (by omega), if_neg (by omega)]; simp only [decide_eq_true_eq]; omega
    · simp only [decide_eq_true_eq] at h k; rw [if_pos (by omega), if_neg (by omega)]; simp only [decide_eq_true_eq]; omega
  · simp only [decide_eq_true_eq] at k; rw [if_neg (by omega)]; simp only [decide_eq_true_eq]; omega
  · simp only [decide_eq_true_eq] at h; rw [if_neg (by omega)]; simp only [decide_eq_true_eq]; omega
  · simp only [decide_eq_true_eq] at h k; rw [if_neg (by omega)]; simp only [decide_eq_true_eq]; omega
end Go.Proofs.Ythlnocpbdhcnlaa.Ev
