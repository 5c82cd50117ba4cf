/- The steward: the laws. -/
import Derived.Test.YthlnocpbdhcnlaaMSteward
set_option linter.unusedVariables false
set_option linter.unusedSimpArgs false
namespace Go.Proofs.Ythlnocpbdhcnlaa.Ev
open Go

theorem awake44 : F15_0 () = some true := by kernel_rfl
def addW (a : Int) (p : PeT) : Int := IntKind.wrap .i64 (a + p.2.1)
theorem sum_p (l : List PeT) (hl : l.length ≤ 300) : ∀ (d i f : Nat) (acc : Int), i + d = l.length → d < f → K13_0 f (acc, (l, ((l.length : Int), (i : Int)))) = some ((l.drop i).foldl addW acc) := by
  intro d
  induction d with
  | zero =>
    intro i f acc hi hf
    obtain ⟨f, rfl⟩ : ∃ q, f = q + 1 := ⟨f - 1, by omega⟩
    show B13_0_3 (K13_0 f) _ = _
    unfold B13_0_3
    rw [decide_eq_false (by simp only []; omega), cond_false, List.drop_eq_nil_of_le (by omega)]
    rfl
  | succ d ih =>
    intro i f acc hi hf
    obtain ⟨f, rfl⟩ : ∃ q, f = q + 1 := ⟨f - 1, by omega⟩
    have hil : i < l.length := by omega
    show B13_0_3 (K13_0 f) _ = _
    unfold B13_0_3
    rw [decide_eq_true (by simp only []; omega), cond_true, List.drop_eq_getElem_cons hil]
    simp only [srd hil, bnd', s64 (show -9223372036854775808 ≤ (i : Int) + 1 ∧ (i : Int) + 1 ≤ 9223372036854775807 by omega)]
    have := ih (i + 1) f (addW acc l[i]) (by omega) (by omega)
    rw [show ((i + 1 : Nat) : Int) = (i : Int) + 1 by omega] at this
    exact this
theorem sum_r (l : List PeT) (hl : l.length ≤ 300) : ∀ (d i f : Nat) (acc : Int), i + d = l.length → d < f → K14_0 f (l, (acc, (i : Int))) = some ((l.drop i).foldl addW acc) := by
  intro d
  induction d with
  | zero =>
    intro i f acc hi hf
    obtain ⟨f, rfl⟩ : ∃ q, f = q + 1 := ⟨f - 1, by omega⟩
    show B14_0_3 (K14_0 f) _ = _
    unfold B14_0_3
    rw [decide_eq_false (by simp only []; omega), cond_false, List.drop_eq_nil_of_le (by omega)]
    rfl
  | succ d ih =>
    intro i f acc hi hf
    obtain ⟨f, rfl⟩ : ∃ q, f = q + 1 := ⟨f - 1, by omega⟩
    have hil : i < l.length := by omega
    show B14_0_3 (K14_0 f) _ = _
    unfold B14_0_3
    rw [decide_eq_true (by simp only []; omega), cond_true, List.drop_eq_getElem_cons hil]
    simp only [srd hil, bnd', s64 (show -9223372036854775808 ≤ (i : Int) + 1 ∧ (i : Int) + 1 ≤ 9223372036854775807 by omega)]
    have := ih (i + 1) f (addW acc l[i]) (by omega) (by omega)
    rw [show ((i + 1 : Nat) : Int) = (i : Int) + 1 by omega] at this
    exact this
theorem add_same (l : List PeT) (hl : l.length ≤ 300) : F13_0 l = some (l.foldl addW 0) ∧ F14_0 l = some (l.foldl addW 0) := by
  have h1 := sum_p l hl l.length 0 1000 0 (by omega) (by omega)
  have h2 := sum_r l hl l.length 0 1000 0 (by omega) (by omega)
  rw [List.drop_zero] at h1 h2
  exact ⟨h1, h2⟩
theorem judge_len (r : RuT) : ∀ (es : List EvT) (p : EvT) (free : Int) (out : List PeT), (judge r p free out es).1.length ≤ out.length + es.length := by
  intro es
  induction es with
  | nil => intro p free out; simp [judge]
  | cons e es ih =>
    intro p free out
    unfold judge
    split
    · rename_i q f' hq
      cases ((out ++ [q]).length : Int) == r.2.2.2
      · have := ih e f' (out ++ [q]); simp only [cond_false, List.length_append, List.length_cons, List.length_nil] at *; omega
      · simp only [cond_true, List.length_append, List.length_cons, List.length_nil]; omega
    · rename_i f' hq
      have := ih e f' out; simp only [List.length_cons]; omega
theorem judgeS_len (r : RuT) (l : List EvT) : (judgeS r l).2.length ≤ l.length := by
  unfold judgeS
  split
  · have := judge_len r l (0, (0, (0, 0))) r.2.2.1 []; simpa using this
  · simp
theorem same_loop (l : List PeT) (hl : l.length ≤ 300) : ∀ (d i f : Nat), i + d = l.length → d < f → K3_0 f ((i : Int), (l, l)) = some true := by
  intro d
  induction d with
  | zero =>
    intro i f hi hf
    obtain ⟨f, rfl⟩ : ∃ q, f = q + 1 := ⟨f - 1, by omega⟩
    show B3_0_8 (K3_0 f) _ = _
    unfold B3_0_8
    rw [decide_eq_false (by simp only []; omega), cond_false, awake44]
    rfl
  | succ d ih =>
    intro i f hi hf
    obtain ⟨f, rfl⟩ : ∃ q, f = q + 1 := ⟨f - 1, by omega⟩
    have hil : i < l.length := by omega
    show B3_0_8 (K3_0 f) _ = _
    unfold B3_0_8
    have b1 : ∀ x : Int, (x != x) = false := fun x => by simp
    have b2 : ∀ x : Bool, (x == x) = true := fun x => by simp
    rw [decide_eq_true (by simp only []; omega), cond_true]
    simp only [sidx hil, List.getElem?_eq_getElem hil, bnd', b1, b2, cond_false, Bool.not_true, s64 (show -9223372036854775808 ≤ (i : Int) + 1 ∧ (i : Int) + 1 ≤ 9223372036854775807 by omega)]
    have := ih (i + 1) f (by omega) (by omega)
    rw [show ((i + 1 : Nat) : Int) = (i : Int) + 1 by omega] at this
    exact this
theorem law3_0 (v) (h : Dom3_0 v) : F3_0 v = some true := by
  obtain ⟨r, l⟩ := v
  unfold F3_0 E3_0
  by_cases hl : (l.length : Int) > 300
  · rw [decide_eq_true hl]; rfl
  rw [decide_eq_false hl, cond_false]
  have hl' : l.length ≤ 300 := by omega
  have hj := judgeS_len r l
  have b1 : ∀ x : Int, (x != x) = false := fun x => by simp
  have b2 : ∀ x : Bool, (x == x) = true := fun x => by simp
  unfold F12_0
  simp only [judge_p r l hl', judge_r r l hl', bnd', b1, b2, cond_false, Bool.not_true, (add_same (judgeS r l).2 (by omega)).1, (add_same (judgeS r l).2 (by omega)).2]
  exact same_loop (judgeS r l).2 (by omega) (judgeS r l).2.length 0 1000 (by omega) (by omega)
/-! ### More events -/
theorem judge_ext (r : RuT) : ∀ (es : List EvT) (p : EvT) (free : Int) (out : List PeT), ∃ t, (judge r p free out es).1 = out ++ t := by
  intro es
  induction es with
  | nil => intro p free out; exact ⟨[], by simp [judge]⟩
  | cons e es ih =>
    intro p free out
    unfold judge
    split
    · rename_i q f' hq
      cases ((out ++ [q]).length : Int) == r.2.2.2
      · obtain ⟨t, ht⟩ := ih e f' (out ++ [q])
        exact ⟨q :: t, by rw [cond_false, ht]; simp⟩
      · exact ⟨[q], by rw [cond_true]⟩
    · rename_i f' hq
      exact ih e f' out
theorem judge_app (r : RuT) : ∀ (es es2 : List EvT) (p : EvT) (free : Int) (out : List PeT), (∃ t, (judge r p free out (es ++ es2)).1 = (judge r p free out es).1 ++ t) ∧ ((judge r p free out es).2 = true → judge r p free out (es ++ es2) = judge r p free out es) := by
  intro es
  induction es with
  | nil => intro es2 p free out; exact ⟨judge_ext r es2 p free out, fun h => by cases h⟩
  | cons e es ih =>
    intro es2 p free out
    simp only [List.cons_append]
    unfold judge
    split
    · rename_i q f' hq
      cases ((out ++ [q]).length : Int) == r.2.2.2
      · exact ih es2 e f' (out ++ [q])
      · exact ⟨⟨[], by simp only [cond_true, List.append_nil]⟩, fun _ => rfl⟩
    · rename_i f' hq
      exact ih es2 e f' out
theorem judge_most (r : RuT) : ∀ (es : List EvT) (p : EvT) (free : Int) (out : List PeT), (out.length : Int) < r.2.2.2 → ((judge r p free out es).1.length : Int) ≤ r.2.2.2 := by
  intro es
  induction es with
  | nil => intro p free out h; simp only [judge]; omega
  | cons e es ih =>
    intro p free out h
    unfold judge
    split
    · rename_i q f' hq
      have hln : ((out ++ [q]).length : Int) = (out.length : Int) + 1 := by simp
      by_cases hs : ((out ++ [q]).length : Int) = r.2.2.2
      · rw [show (((out ++ [q]).length : Int) == r.2.2.2) = true from beq_iff_eq.2 hs, cond_true]; simp only []; omega
      · rw [show (((out ++ [q]).length : Int) == r.2.2.2) = false from beq_eq_false_iff_ne.2 hs, cond_false]
        exact ih e f' (out ++ [q]) (by omega)
    · rename_i f' hq
      exact ih e f' out h
theorem judge_none (r : RuT) : ∀ (es : List EvT) (p : EvT) (free : Int) (out : List PeT), (∀ e ∈ es, e.1 ≠ 4 ∧ e.1 ≠ 5) → (judge r p free out es).1 = out := by
  intro es
  induction es with
  | nil => intro p free out _; rfl
  | cons e es ih =>
    intro p free out h
    obtain ⟨h1, h2⟩ := List.forall_mem_cons.1 h
    have e4 : (e.1 == 4) = false := beq_eq_false_iff_ne.2 h1.1
    have e5 : (e.1 == 5) = false := beq_eq_false_iff_ne.2 h1.2
    unfold judge pen
    rw [e4, e5]
    simp only [cond_false, Bool.false_and]
    exact ih e free out h2
theorem mK1 (n : Nat) : (K4_0 (n + 1)).1 = B4_0_8 (K4_0 n) := rfl
theorem mK2 (n : Nat) : (K4_0 (n + 1)).2 = B4_0_14 (K4_0 n) := rfl
theorem some_loop (l : List EvT) (b : List PeT) (hl : l.length ≤ 300) (hb : (∀ e ∈ l, e.1 ≠ 4 ∧ e.1 ≠ 5) → b.length = 0) : ∀ (d i f : Nat) (fl : Bool), i + d = l.length → d < f → (fl = true ∨ ∀ e ∈ l.take i, e.1 ≠ 4 ∧ e.1 ≠ 5) →
    (K4_0 f).2 ((l, (fl, (i : Int))), b) = some true := by
  intro d
  induction d with
  | zero =>
    intro i f fl hi hf hfl
    obtain ⟨f, rfl⟩ : ∃ q, f = q + 1 := ⟨f - 1, by omega⟩
    rw [mK2]
    unfold B4_0_14
    rw [decide_eq_false (by simp only []; omega), cond_false, awake44]
    cases fl with
    | true => rfl
    | false =>
      have h0 : b.length = 0 := hb (by
        rcases hfl with h | h
        · cases h
        · rwa [List.take_of_length_le (by omega)] at h)
      simp only [cond_false, h0]
      rfl
  | succ d ih =>
    intro i f fl hi hf hfl
    obtain ⟨f, rfl⟩ : ∃ q, f = q + 1 := ⟨f - 1, by omega⟩
    have hil : i < l.length := by omega
    have nx := fun fl a => ih (i + 1) f fl (by omega) (by omega) a
    rw [show ((i + 1 : Nat) : Int) = (i : Int) + 1 by omega] at nx
    rw [mK2]
    unfold B4_0_14
    rw [decide_eq_true (by simp only []; omega), cond_true]
    have tk : l.take (i + 1) = l.take i ++ [l[i]] := (List.take_append_getElem hil).symm
    simp only [srd hil, bnd', s64 (show -9223372036854775808 ≤ (i : Int) + 1 ∧ (i : Int) + 1 ≤ 9223372036854775807 by omega)]
    cases fl with
    | true => simp only [cond_true]; exact nx true (.inl rfl)
    | false =>
      simp only [cond_false]
      cases c4 : (l[i].1 == 4) with
      | true => simp only [cond_true]; exact nx true (.inl rfl)
      | false =>
        simp only [cond_false]
        cases c5 : (l[i].1 == 5) with
        | true => exact nx true (.inl rfl)
        | false =>
          refine nx false (.inr ?_)
          rw [tk]
          intro e he
          rcases List.mem_append.1 he with he | he
          · rcases hfl with h | h
            · cases h
            · exact h e he
          · rw [List.mem_singleton] at he
            subst he
            exact ⟨beq_eq_false_iff_ne.1 c4, beq_eq_false_iff_ne.1 c5⟩
theorem pre_loop (l : List EvT) (a t : List PeT) (hl : l.length ≤ 300) (ha : a.length ≤ 300) (hb : (∀ e ∈ l, e.1 ≠ 4 ∧ e.1 ≠ 5) → (a ++ t).length = 0) : ∀ (d i f : Nat), i + d = a.length → d + 302 < f →
    (K4_0 f).1 ((l, (i : Int)), (a ++ t, a)) = some true := by
  intro d
  induction d with
  | zero =>
    intro i f hi hf
    obtain ⟨f, rfl⟩ : ∃ q, f = q + 1 := ⟨f - 1, by omega⟩
    rw [mK1]
    unfold B4_0_8
    rw [decide_eq_false (by simp only []; omega), cond_false]
    exact some_loop l (a ++ t) hl hb l.length 0 f false (by omega) (by omega) (.inr (by simp))
  | succ d ih =>
    intro i f hi hf
    obtain ⟨f, rfl⟩ : ∃ q, f = q + 1 := ⟨f - 1, by omega⟩
    have hil : i < a.length := by omega
    have hil2 : i < (a ++ t).length := by rw [List.length_append]; omega
    have nx := ih (i + 1) f (by omega) (by omega)
    rw [show ((i + 1 : Nat) : Int) = (i : Int) + 1 by omega] at nx
    rw [mK1]
    unfold B4_0_8
    have b1 : ∀ x : Int, (x == x) = true := fun x => by simp
    have b2 : ∀ x : Bool, (x == x) = true := fun x => by simp
    rw [decide_eq_true (by simp only []; omega), cond_true]
    simp only [sidx hil, sidx hil2, List.getElem?_eq_getElem hil, List.getElem?_eq_getElem hil2, List.getElem_append_left hil, bnd', b1, b2, Bool.and_self, Bool.not_true, cond_false, s64 (show -9223372036854775808 ≤ (i : Int) + 1 ∧ (i : Int) + 1 ≤ 9223372036854775807 by omega)]
    exact nx
theorem law4_0 (v) (h : Dom4_0 v) : F4_0 v = some true := by
  obtain ⟨r, l, c⟩ := v
  unfold F4_0 E4_0
  by_cases hl : (l.length : Int) > 300
  · rw [decide_eq_true hl]; rfl
  rw [decide_eq_false hl, cond_false]
  by_cases hc0 : c < 0
  · rw [decide_eq_true hc0]; rfl
  rw [decide_eq_false hc0, cond_false]
  by_cases hc1 : c > (l.length : Int)
  · rw [decide_eq_true hc1]; rfl
  rw [decide_eq_false hc1, cond_false]
  obtain ⟨c, rfl⟩ := Int.eq_ofNat_of_zero_le (show 0 ≤ c by omega)
  have hl' : l.length ≤ 300 := by omega
  have hcut : cutx l 0 (c : Int) = some (l.take c) := by
    unfold cutx
    rw [decide_eq_true (by omega)]
    simp
  have hla : (l.take c).length ≤ 300 := by rw [List.length_take]; omega
  simp only [hcut, judge_p r l hl', judge_p r _ hla, bnd']
  have b1 : ∀ x : Int, (x != x) = false := fun x => by simp
  have key : ∀ (a t : List PeT), a.length ≤ 300 → ((∀ e ∈ l, e.1 ≠ 4 ∧ e.1 ≠ 5) → (a ++ t).length = 0) → (K4_0 (fuel4_0 (r, (l, (c : Int))))).1 ((l, (0 : Int)), (a ++ t, a)) = some true := fun a t ha hb => pre_loop l a t hl' ha hb a.length 0 1000 (by omega) (by omega)
  by_cases hm : MayP r
  case neg =>
    unfold judgeS
    rw [if_neg hm, if_neg hm]
    have := key [] [] (by simp) (by simp)
    simp only [b1, cond_false, List.length_nil, List.append_nil] at this ⊢
    rw [decide_eq_false (show ¬ (((0 : Nat) : Int) > ((0 : Nat) : Int)) by omega), cond_false]
    by_cases hp : r.2.2.2 > 0
    · rw [decide_eq_true hp, cond_true, decide_eq_false (show ¬ (((0 : Nat) : Int) > r.2.2.2) by omega), cond_false]; exact this
    · rw [decide_eq_false hp, cond_false]; exact this
  unfold judgeS
  rw [if_pos hm, if_pos hm]
  have happ := judge_app r (l.take c) (l.drop c) (0, (0, (0, 0))) r.2.2.1 []
  rw [List.take_append_drop] at happ
  obtain ⟨⟨t, ht⟩, hst⟩ := happ
  have hlen := judge_len r (l.take c) (0, (0, (0, 0))) r.2.2.1 []
  have hmost := judge_most r l (0, (0, (0, 0))) r.2.2.1 []
  have hnone := judge_none r l (0, (0, (0, 0))) r.2.2.1 []
  simp only [List.length_nil] at hlen hmost
  generalize hA : judge r (0, (0, (0, 0))) r.2.2.1 [] (l.take c) = A at *
  generalize hB : judge r (0, (0, (0, 0))) r.2.2.1 [] l = B at *
  have go := key A.1 t (by omega) (by rw [← ht]; intro hh; rw [hnone hh]; rfl)
  rw [← ht] at go
  simp only [b1, cond_false]
  have hle : (A.1.length : Int) ≤ (B.1.length : Int) := by rw [ht, List.length_append]; omega
  rw [decide_eq_false (show ¬ ((A.1.length : Int) > (B.1.length : Int)) by omega), cond_false]
  have tail : (bif decide (r.2.2.2 > 0) then bif decide ((B.1.length : Int) > r.2.2.2) then some false else (K4_0 (fuel4_0 (r, (l, (c : Int))))).1 ((l, (0 : Int)), (B.1, A.1)) else (K4_0 (fuel4_0 (r, (l, (c : Int))))).1 ((l, (0 : Int)), (B.1, A.1))) = some true := by
    by_cases hp : r.2.2.2 > 0
    · rw [decide_eq_true hp, cond_true, decide_eq_false (show ¬ ((B.1.length : Int) > r.2.2.2) by have := hmost (by simpa using hp); omega), cond_false]; exact go
    · rw [decide_eq_false hp, cond_false]; exact go
  cases hx : A.2 with
  | false => simp only [cond_false]; exact tail
  | true =>
    have hBA := hst hx
    simp only [cond_true]
    rw [show B.2 = true by rw [hBA, hx]]
    simp only [Bool.not_true, cond_false]
    rw [show ((A.1.length : Int) != (B.1.length : Int)) = false by rw [hBA]; simp, cond_false]
    exact tail
end Go.Proofs.Ythlnocpbdhcnlaa.Ev
