/- The steward: the laws. -/
import Derived.Test.YthlnocpbdhcnlaaMSteward
set_option linter.unusedVariables false
set_option linter.unusedSimpArgs false
namespace Go.Proofs.Ythlnocpbdhcnlaa.Ev
open Go

theorem awake44 : F15_0 () = some true := by kernel_rfl
def addW (a : Int) (p : PeT) : Int := IntKind.wrap .i64 (a + p.2.1)
theorem sum_p (l : List PeT) (hl : l.length ≤ 300) : ∀ (d i f : Nat) (acc : Int), i + d = l.length → d < f → K13_0 f (acc, (l, ((l.length : Int), (i : Int)))) = some ((l.drop i).foldl addW acc) := by
  intro d
  induction d with
  | zero =>
    intro i f acc hi hf
    obtain ⟨f, rfl⟩ : ∃ q, f = q + 1 := ⟨f - 1, by omega⟩
    show B13_0_3 (K13_0 f) _ = _
    unfold B13_0_3
    rw [decide_eq_false (by simp only []; omega), cond_false, List.drop_eq_nil_of_le (by omega)]
    rfl
  | succ d ih =>
    intro i f acc hi hf
    obtain ⟨f, rfl⟩ : ∃ q, f = q + 1 := ⟨f - 1, by omega⟩
    have hil : i < l.length := by omega
    show B13_0_3 (K13_0 f) _ = _
    unfold B13_0_3
    rw [decide_eq_true (by simp only []; omega), cond_true, List.drop_eq_getElem_cons hil]
    simp only [srd hil, bnd', s64 (show -9223372036854775808 ≤ (i : Int) + 1 ∧ (i : Int) + 1 ≤ 9223372036854775807 by omega)]
    have := ih (i + 1) f (addW acc l[i]) (by omega) (by omega)
    rw [show ((i + 1 : Nat) : Int) = (i : Int) + 1 by omega] at this
    exact this
theorem judge_len (r : RuT) : ∀ (es : List EvT) (p : EvT) (free : Int) (out : List PeT), (judge r p free out es).1.length ≤ out.length + es.length := by
  intro es
  induction es with
  | nil => intro p free out; simp [judge]
  | cons e es ih =>
    intro p free out
    unfold judge
    split
    · rename_i q f' hq
      cases ((out ++ [q]).length : Int) == r.2.2.2
      · have := ih e f' (out ++ [q]); simp only [cond_false, List.length_append, List.length_cons, List.length_nil] at *; omega
      · simp only [cond_true, List.length_append, List.length_cons, List.length_nil]; omega
    · rename_i f' hq
      have := ih e f' out; simp only [List.length_cons]; omega
theorem judgeS_len (r : RuT) (l : List EvT) : (judgeS r l).2.length ≤ l.length := by
  unfold judgeS
  split
  · have := judge_len r l (0, (0, (0, 0))) r.2.2.1 []; simpa using this
  · simp
/-! ### More events -/
theorem judge_ext (r : RuT) : ∀ (es : List EvT) (p : EvT) (free : Int) (out : List PeT), ∃ t, (judge r p free out es).1 = out ++ t := by
  intro es
  induction es with
  | nil => intro p free out; exact ⟨[], by simp [judge]⟩
  | cons e es ih =>
    intro p free out
    unfold judge
    split
    · rename_i q f' hq
      cases ((out ++ [q]).length : Int) == r.2.2.2
      · obtain ⟨t, ht⟩ := ih e f' (out ++ [q])
        exact ⟨q :: t, by rw [cond_false, ht]; simp⟩
      · exact ⟨[q], by rw [cond_true]⟩
    · rename_i f' hq
      exact ih e f' out
theorem judge_app (r : RuT) : ∀ (es es2 : List EvT) (p : EvT) (free : Int) (out : List PeT), (∃ t, (judge r p free out (es ++ es2)).1 = (judge r p free out es).1 ++ t) ∧ ((judge r p free out es).2 = true → judge r p free out (es ++ es2) = judge r p free out es) := by
  intro es
  induction es with
  | nil => intro es2 p free out; exact ⟨judge_ext r es2 p free out, fun h => by cases h⟩
  | cons e es ih =>
    intro es2 p free out
    simp only [List.cons_append]
    unfold judge
    split
    · rename_i q f' hq
      cases ((out ++ [q]).length : Int) == r.2.2.2
      · exact ih es2 e f' (out ++ [q])
      · exact ⟨⟨[], by simp only [cond_true, List.append_nil]⟩, fun _ => rfl⟩
    · rename_i f' hq
      exact ih es2 e f' out
theorem judge_most (r : RuT) : ∀ (es : List EvT) (p : EvT) (free : Int) (out : List PeT), (out.length : Int) < r.2.2.2 → ((judge r p free out es).1.length : Int) ≤ r.2.2.2 := by
  intro es
  induction es with
  | nil => intro p free out h; simp only [judge]; omega
  | cons e es ih =>
    intro p free out h
    unfold judge
    split
    · rename_i q f' hq
      have hln : ((out ++ [q]).length : Int) = (out.length : Int) + 1 := by simp
      by_cases hs : ((out ++ [q]).length : Int) = r.2.2.2
      · rw [show (((out ++ [q]).length : Int) == r.2.2.2) = true from beq_iff_eq.2 hs, cond_true]; simp only []; omega
      · rw [show (((out ++ [q]).length : Int) == r.2.2.2) = false from beq_eq_false_iff_ne.2 hs, cond_false]
        exact ih e f' (out ++ [q]) (by omega)
    · rename_i f' hq
      exact ih e f' out h
theorem judge_none (r : RuT) : ∀ (es : List EvT) (p : EvT) (free : Int) (out : List PeT), (∀ e ∈ es, e.1 ≠ 4 ∧ e.1 ≠ 5) → (judge r p free out es).1 = out := by
  intro es
  induction es with
  | nil => intro p free out _; rfl
  | cons e es ih =>
    intro p free out h
    obtain ⟨h1, h2⟩ := List.forall_mem_cons.1 h
    have e4 : (e.1 == 4) = false := beq_eq_false_iff_ne.2 h1.1
    have e5 : (e.1 == 5) = false := beq_eq_false_iff_ne.2 h1.2
    unfold judge pen
    rw [e4, e5]
    simp only [cond_false, Bool.false_and]
    exact ih e free out h2
end Go.Proofs.Ythlnocpbdhcnlaa.Ev
