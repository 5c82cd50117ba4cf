/- Rows of a table in order: more points first, then more often higher up, then the lower number. -/
import Derived.Test.YtemdppcnhlnicaaXFnsPre
import Derived.Shelf.SlSortCmp.WholeK
set_option linter.unusedVariables false
namespace Go.Proofs.Ytemdppcnhlnicaa.Ev
open Go Go.RowKit
def cmpI (a b : Int) : Int := if a < b then -1 else if b < a then 1 else 0
def cmpL : List Int → List Int → Int
  | [], [] => 0
  | [], _ :: _ => -1
  | _ :: _, [] => 1
  | a :: r, b :: s => if cmpI a b = 0 then cmpL r s else cmpI a b
def orI (a b : Int) : Int := if a = 0 then b else a
def cmpRow (x y : Int × Int × List Int) : Int := orI (cmpI y.2.1 x.2.1) (orI (cmpL y.2.2 x.2.2) (cmpI x.1 y.1))
theorem f47 (n : Int) : F47_0 n = some false := by simp [F47_0]
theorem f35 (a b : Int) : F35_0 (a, b) = some (cmpI a b) := by
  simp only [F35_0, f47, Option.bind_some, cond_false, cmpI]
  by_cases h1 : a < b
  · simp [h1]
  · by_cases h2 : b < a <;> simp [h1, h2]
theorem k36 (x y : List Int) (hx : x.length < 4611686018427387904) : ∀ n i : Nat, i ≤ x.length → i ≤ y.length → x.length - i < n → K36_0 n (x, y, x, (x.length : Int), (i : Int)) = some (cmpL (x.drop i) (y.drop i)) := by
  intro n
  induction n with
  | zero => intro i _ _ h; omega
  | succ n ih =>
    intro i h1 h2 h3
    show B36_0_2 (K36_0 n) _ = _
    simp only [B36_0_2]
    by_cases hi : i < x.length
    · have e1 : x.drop i = x[i] :: x.drop (i + 1) := (List.getElem_cons_drop (h := hi)).symm
      have r1 : rdx x (i : Int) = some x[i] := by simp [rdx, hi]
      by_cases hj : i < y.length
      · have e2 : y.drop i = y[i] :: y.drop (i + 1) := (List.getElem_cons_drop (h := hj)).symm
        have r2 : rdx y (i : Int) = some y[i] := by simp [rdx, hj]
        have hw : IntKind.wrap .i64 ((i : Int) + 1) = ((i + 1 : Nat) : Int) := by
          simp [IntKind.wrap, IntKind.bits, IntKind.signed]; omega
        have hge : ¬ ((i : Int) ≥ (y.length : Int)) := by omega
        have hlt : (i : Int) < (x.length : Int) := by omega
        simp only [hlt, decide_true, cond_true, r1, r2, Option.bind_some, hge, decide_false, cond_false, f35, hw, e1, e2, cmpL]
        by_cases hc : cmpI x[i] y[i] = 0
        · rw [if_pos hc, hc]
          exact ih (i + 1) (by omega) (by omega) (by omega)
        · rw [if_neg hc]
          have : (cmpI x[i] y[i] != 0) = true := by simpa using hc
          rw [this]; rfl
      · have hge : (i : Int) ≥ (y.length : Int) := by omega
        have hlt : (i : Int) < (x.length : Int) := by omega
        have e2 : y.drop i = [] := List.drop_eq_nil_of_le (by omega)
        simp only [hlt, decide_true, cond_true, r1, Option.bind_some, hge, e1, e2, cmpL]
    · have hlt : ¬ ((i : Int) < (x.length : Int)) := by omega
      have e1 : x.drop i = [] := List.drop_eq_nil_of_le (by omega)
      simp only [hlt, decide_false, cond_false, e1]
      by_cases hj : i < y.length
      · have e2 : y.drop i = y[i] :: y.drop (i + 1) := (List.getElem_cons_drop (h := hj)).symm
        have : (x.length : Int) < (y.length : Int) := by omega
        simp only [this, decide_true, cond_true, e2, cmpL]
      · have e2 : y.drop i = [] := List.drop_eq_nil_of_le (by omega)
        have : ¬ (x.length : Int) < (y.length : Int) := by omega
        simp only [this, decide_false, cond_false, e2, cmpL]
theorem f36 (x y : List Int) (h : x.length < 1000) : F36_0 (x, y) = some (cmpL x y) := by
  have := k36 x y (by omega) 1000 0 (by omega) (by omega) (by omega)
  rw [List.drop_zero, List.drop_zero] at this
  exact this
theorem f34 (a b c : Int) : F34_0 [a, b, c] = some (orI a (orI b c)) := by
  show B34_0_3 (B34_0_3 (B34_0_3 (B34_0_3 (K34_0 996)))) (0, [a, b, c], 3, 0) = _
  have q : ∀ n : Int, ¬ n = 0 → (n != 0) = true := fun n h => by simpa using h
  by_cases h1 : a = 0 <;> by_cases h2 : b = 0 <;> by_cases h3 : c = 0 <;> simp [B34_0_3, rdx, orI, h1, h2, h3, q, IntKind.wrap, IntKind.bits, IntKind.signed] <;> first | rfl | (rw [q _ h3]; rfl) | (rw [q _ h2]; rfl) | (rw [q _ h1]; rfl)
theorem f26 (x y : Int × Int × List Int) (h : y.2.2.length < 1000) : F26_0 (x, y) = some (cmpRow x y) := by
  simp only [F26_0, f35, f36 _ _ h, Option.bind_some, f34]
  rfl
/-- A comparison that is one. -/
structure Cmp {α : Type} (f : α → α → Int) : Prop where
  anti : ∀ x y, f y x = - f x y
  le : ∀ x y z, f x y ≤ 0 → f y z ≤ 0 → f x z ≤ 0
  l1 : ∀ x y z, f x y < 0 → f y z ≤ 0 → f x z < 0
  l2 : ∀ x y z, f x y ≤ 0 → f y z < 0 → f x z < 0
theorem cmpI_cmp : Cmp cmpI := by
  constructor
  · intro x y; simp only [cmpI]; by_cases h1 : x < y <;> by_cases h2 : y < x <;> simp [h1, h2]; omega
  all_goals (intro x y z; simp only [cmpI]; by_cases h1 : x < y <;> by_cases h2 : y < x <;> by_cases h3 : y < z <;> by_cases h4 : z < y <;> by_cases h5 : x < z <;> by_cases h6 : z < x <;> simp [h1, h2, h3, h4, h5, h6] <;> omega)
theorem orI_cmp {α : Type} {f g : α → α → Int} (hf : Cmp f) (hg : Cmp g) : Cmp fun x y => orI (f x y) (g x y) := by
  constructor
  · intro x y
    have h1 := hf.anti x y; have h2 := hg.anti x y
    simp only [orI]
    by_cases h : f x y = 0
    · rw [if_pos h, if_pos (by omega)]; exact h2
    · rw [if_neg h, if_neg (by omega)]; exact h1
  all_goals
    intro x y z
    have a1 := hf.le x y z; have a2 := hf.l1 x y z; have a3 := hf.l2 x y z; have b1 := hg.le x y z; have b2 := hg.l1 x y z; have b3 := hg.l2 x y z
    have c1 := hf.anti x y; have c2 := hf.anti y z; have c3 := hf.anti x z
    have d1 := hf.le z y x; have d2 := hf.l1 z y x; have d3 := hf.l2 z y x
    simp only [orI]
    split <;> split <;> split <;> omega
theorem cmpL_cons (a b : Int) (r s : List Int) : cmpL (a :: r) (b :: s) = orI (cmpI a b) (cmpL r s) := rfl
theorem cmpL_cmp : Cmp cmpL := by
  have anti : ∀ x y, cmpL y x = - cmpL x y := by
    intro x
    induction x with
    | nil => intro y; cases y <;> rfl
    | cons a r ih =>
      intro y
      cases y with
      | nil => rfl
      | cons b s =>
        have h1 := cmpI_cmp.anti a b; have h2 := ih s
        rw [cmpL_cons, cmpL_cons]
        simp only [orI]
        by_cases h : cmpI a b = 0
        · rw [if_pos h, if_pos (by omega)]; exact h2
        · rw [if_neg h, if_neg (by omega)]; exact h1
  have all : ∀ x y z, (cmpL x y ≤ 0 → cmpL y z ≤ 0 → cmpL x z ≤ 0) ∧ (cmpL x y < 0 → cmpL y z ≤ 0 → cmpL x z < 0) ∧ (cmpL x y ≤ 0 → cmpL y z < 0 → cmpL x z < 0) := by
    intro x
    induction x with
    | nil => intro y z; cases y <;> cases z <;> simp [cmpL]
    | cons a r ih =>
      intro y z
      cases y with
      | nil => cases z <;> simp [cmpL]
      | cons b s =>
        cases z with
        | nil => simp [cmpL]
        | cons c t =>
          have h0 := ih s t
          obtain ⟨b1, b2, b3⟩ := h0
          have hf := cmpI_cmp
          have a1 := hf.le a b c; have a2 := hf.l1 a b c; have a3 := hf.l2 a b c
          have c1 := hf.anti a b; have c2 := hf.anti b c; have c3 := hf.anti a c
          have d1 := hf.le c b a; have d2 := hf.l1 c b a; have d3 := hf.l2 c b a
          rw [cmpL_cons, cmpL_cons, cmpL_cons]
          simp only [orI]
          split <;> split <;> split <;> (refine ⟨?_, ?_, ?_⟩ <;> omega)
  exact ⟨anti, fun x y z => (all x y z).1, fun x y z => (all x y z).2.1, fun x y z => (all x y z).2.2⟩
theorem Cmp.map {α β : Type} {f : β → β → Int} (h : Cmp f) (p : α → β) : Cmp fun x y => f (p x) (p y) := ⟨fun x y => h.anti _ _, fun x y z => h.le _ _ _, fun x y z => h.l1 _ _ _, fun x y z => h.l2 _ _ _⟩
theorem Cmp.flip {α : Type} {f : α → α → Int} (h : Cmp f) : Cmp fun x y => f y x :=
  ⟨fun x y => h.anti _ _, fun x y z a b => h.le _ _ _ b a, fun x y z a b => h.l2 _ _ _ b a, fun x y z a b => h.l1 _ _ _ b a⟩
theorem cmpRow_cmp : Cmp cmpRow := orI_cmp (cmpI_cmp.flip.map (fun x : Int × Int × List Int => x.2.1)) (orI_cmp (cmpL_cmp.flip.map (fun x : Int × Int × List Int => x.2.2)) (cmpI_cmp.map (fun x : Int × Int × List Int => x.1)))
theorem Cmp.swo {α : Type} {f : α → α → Int} (h : Cmp f) : Sort.SWO (ltOf f) where
  irrefl x := by have := h.anti x x; simp only [ltOf, decide_eq_false_iff_not]; omega
  trans x y z h1 h2 := by
    simp only [ltOf, decide_eq_true_eq] at *
    exact h.l1 x y z h1 (by omega)
  ntrans x y z h1 h2 := by
    simp only [ltOf, decide_eq_false_iff_not] at *
    have a1 := h.anti x y; have a2 := h.anti y z; have a3 := h.anti x z
    have := h.le z y x (by omega) (by omega)
    omega
theorem cmpI_zero {a b : Int} (h : cmpI a b = 0) : a = b := by
  simp only [cmpI] at h
  by_cases h1 : a < b
  · simp [h1] at h
  · by_cases h2 : b < a
    · simp [h1, h2] at h
    · omega
theorem cmpRow_zero {x y : Int × Int × List Int} (h : cmpRow x y = 0) : x.1 = y.1 := by
  simp only [cmpRow, orI] at h
  split at h
  · split at h
    · exact cmpI_zero h
    · rename_i h1 h2; exact absurd h h2
  · rename_i h1; exact absurd h h1
end Go.Proofs.Ytemdppcnhlnicaa.Ev
