/- The ground: what New and the document's Right look at. -/
import Derived.Test.YtneiaaalbpjgiaaGreatMLen
set_option linter.unusedVariables false
set_option linter.unusedSimpArgs false
namespace Go.Proofs.YtneiaaalbpjgiaaGreat.Ev
open Go

abbrev TR : Type := Int × Int × Int × Int × Int × Int × List Int × List Int × (List (Int × Int × Bool)) × (List (Int × Int)) × (List (List (Int × Int))) × (List (Int × Int × Int × Int × Bool)) × Int × Int × Int × Int
theorem fdx {α : Type} {l : List α} {i : Nat} (h : i < l.length) : rdx l (i : Int) = some l[i] := by
  unfold rdx
  rw [decide_eq_true (by omega)]
  simp [List.getElem?_eq_getElem h]
theorem fdD {l : List Int} {i : Nat} (h : i < l.length) : rdx l (i : Int) = some (l.getD i 0) := by
  rw [fdx h]; simp [List.getD, List.getElem?_eq_getElem h]
theorem fgD {l : List Int} {p : Nat} (h : p < l.length) : l[p]? = some (l.getD p 0) := by simp [List.getD, List.getElem?_eq_getElem h]
theorem fgE {l : List Int} {p : Nat} (h : p < l.length) : l[p] = l.getD p 0 := by simp [List.getD, List.getElem?_eq_getElem h]
theorem fidx {i n : Nat} (h : i < n) : idx (i : Int) n = some i := by unfold idx; rw [decide_eq_true (by omega)]; simp
theorem f64 {n : Int} (h : -9223372036854775808 ≤ n ∧ n ≤ 9223372036854775807) : IntKind.wrap .i64 n = n := wrap_i64 h

def CntP (t : TR) : Prop := (1 ≤ t.2.2.1 ∧ t.2.2.1 ≤ 64) ∧ (1 ≤ t.2.2.2.1 ∧ t.2.2.2.1 ≤ 64) ∧ (t.2.2.2.2.2.2.1.length : Int) = (t.2.2.1 + 1) * (t.2.2.2.1 + 1) ∧ (t.2.2.2.2.2.2.2.1.length : Int) = t.2.2.1 * t.2.2.2.1 ∧ 1 ≤ t.2.2.2.2.2.2.2.2.1.length ∧ t.2.2.2.2.2.2.2.2.1.length ≤ 8
instance (t : TR) : Decidable (CntP t) := by unfold CntP; infer_instance
theorem side_eq (x : Int) : F33_0 x = some (decide (1 ≤ x ∧ x ≤ 64)) := by
  unfold F33_0; by_cases h : 1 ≤ x <;> simp [h]
theorem grid_le {a b : Int} (ha : 1 ≤ a ∧ a ≤ 64) (hb : 1 ≤ b ∧ b ≤ 64) : (0 ≤ (a + 1) * (b + 1) ∧ (a + 1) * (b + 1) ≤ 4225) ∧ 0 ≤ a * b ∧ a * b ≤ 4096 :=
  ⟨prod_le (A := 65) (B := 65) (by omega) (by omega) (by omega) (by omega), prod_le (A := 64) (B := 64) (by omega) (by omega) (by omega) (by omega)⟩
theorem cnt_tail (x y z : Nat) (A B : Int) :
    (bif decide ((z : Int) < 1) then some false else bif decide ((z : Int) > 8) then some false else bif (x : Int) == A then some ((y : Int) == B) else some false) = some (decide ((x : Int) = A ∧ (y : Int) = B ∧ 1 ≤ z ∧ z ≤ 8)) ∧
    (bif (x : Int) == A then bif (y : Int) == B then bif decide ((z : Int) ≥ 1) then some (decide ((z : Int) ≤ 8)) else some false else some false else some false) = some (decide ((x : Int) = A ∧ (y : Int) = B ∧ 1 ≤ z ∧ z ≤ 8)) := by
  have d1 : ∀ p q : Int, (p == q) = decide (p = q) := fun p q => rfl
  simp only [d1]
  by_cases c1 : (x : Int) = A <;> by_cases c2 : (y : Int) = B <;> by_cases c3 : (z : Int) < 1 <;> by_cases c4 : (z : Int) > 8 <;> by_cases c5 : (z : Int) ≥ 1 <;> by_cases c6 : (z : Int) ≤ 8 <;> (try omega) <;> simp [c1, c2, c3, c4, c5, c6] <;> omega
theorem cnt_eq (t : TR) : F12_0 t = some (decide (CntP t)) ∧ F30_0 t = some (decide (CntP t)) := by
  unfold F12_0 F30_0
  simp only [side_eq, Option.bind_some]
  by_cases ha : 1 ≤ t.2.2.1 ∧ t.2.2.1 ≤ 64
  case neg =>
    have hn : ¬ CntP t := fun h => ha h.1
    rw [decide_eq_false ha, decide_eq_false hn]
    refine ⟨rfl, ?_⟩
    by_cases a1 : t.2.2.1 < 1
    · rw [decide_eq_true a1]; rfl
    · rw [decide_eq_false a1, cond_false, decide_eq_true (show t.2.2.1 > 64 by omega)]; rfl
  case pos =>
    rw [decide_eq_true ha, decide_eq_false (show ¬ t.2.2.1 < 1 by omega), decide_eq_false (show ¬ t.2.2.1 > 64 by omega)]
    simp only [Bool.not_true, cond_false]
    by_cases hb : 1 ≤ t.2.2.2.1 ∧ t.2.2.2.1 ≤ 64
    case neg =>
      have hn : ¬ CntP t := fun h => hb h.2.1
      rw [decide_eq_false hb, decide_eq_false hn]
      refine ⟨rfl, ?_⟩
      by_cases a1 : t.2.2.2.1 < 1
      · rw [decide_eq_true a1]; rfl
      · rw [decide_eq_false a1, cond_false, decide_eq_true (show t.2.2.2.1 > 64 by omega)]; rfl
    case pos =>
      rw [decide_eq_true hb, decide_eq_false (show ¬ t.2.2.2.1 < 1 by omega), decide_eq_false (show ¬ t.2.2.2.1 > 64 by omega)]
      simp only [Bool.not_true, cond_false]
      have g := grid_le ha hb
      rw [f64 (show -9223372036854775808 ≤ t.2.2.1 + 1 ∧ t.2.2.1 + 1 ≤ 9223372036854775807 by omega), f64 (show -9223372036854775808 ≤ t.2.2.2.1 + 1 ∧ t.2.2.2.1 + 1 ≤ 9223372036854775807 by omega),
        f64 (show -9223372036854775808 ≤ (t.2.2.1 + 1) * (t.2.2.2.1 + 1) ∧ (t.2.2.1 + 1) * (t.2.2.2.1 + 1) ≤ 9223372036854775807 by omega), f64 (show -9223372036854775808 ≤ t.2.2.1 * t.2.2.2.1 ∧ t.2.2.1 * t.2.2.2.1 ≤ 9223372036854775807 by omega)]
      have e : CntP t ↔ ((t.2.2.2.2.2.2.1.length : Int) = (t.2.2.1 + 1) * (t.2.2.2.1 + 1) ∧ (t.2.2.2.2.2.2.2.1.length : Int) = t.2.2.1 * t.2.2.2.1 ∧ 1 ≤ t.2.2.2.2.2.2.2.2.1.length ∧ t.2.2.2.2.2.2.2.2.1.length ≤ 8) := ⟨fun h => h.2.2, fun h => ⟨ha, hb, h⟩⟩
      rw [decide_eq_decide.2 e]
      exact cnt_tail _ _ _ _ _
theorem in_eq (n a b : Int) : F31_0 (n, (a, b)) = some (decide (a ≤ n ∧ n ≤ b)) := by
  unfold F31_0; by_cases h : a ≤ n <;> simp [h]
theorem siz1 {n m : Int} (hm : 0 ≤ m ∧ m ≤ 4611686018427387904) : F35_0 (n, m) = some (decide (¬ (-m ≤ n ∧ n ≤ m)), m) := by
  unfold F35_0
  rw [f64 (by omega)]
  by_cases h : n > m
  · rw [decide_eq_true (show n > m from h), cond_true, decide_eq_true (show ¬ (-m ≤ n ∧ n ≤ m) by omega)]
  · rw [decide_eq_false (show ¬ n > m from h), cond_false, show (0 : Int) - m = -m by omega]
    simp only [Option.some.injEq, Prod.mk.injEq, and_true, decide_eq_decide]; omega
theorem szK (n : Nat) : K63_0 (n + 1) = B63_0_2 (K63_0 n) := rfl
theorem siz_loop (l : List Int) {m : Int} (hm : 0 ≤ m ∧ m ≤ 4611686018427387904) (hl : l.length ≤ 1200) : ∀ (d i f : Nat), i + d = l.length → d < f →
    ∃ r, K63_0 f ((l, ((l.length : Int), (i : Int))), m) = some (r, m) ∧ (r < 0 ↔ ∀ x ∈ l.drop i, -m ≤ x ∧ x ≤ m) := by
  intro d
  induction d with
  | zero =>
    intro i f hi hf
    obtain ⟨f, rfl⟩ : ∃ q, f = q + 1 := ⟨f - 1, by omega⟩
    rw [szK]
    unfold B63_0_2
    rw [decide_eq_false (by simp only []; omega), cond_false]
    refine ⟨-1, rfl, ?_⟩
    rw [List.drop_eq_nil_of_le (by omega)]
    simp
  | succ d ih =>
    intro i f hi hf
    obtain ⟨f, rfl⟩ : ∃ q, f = q + 1 := ⟨f - 1, by omega⟩
    have hil : i < l.length := by omega
    rw [szK]
    unfold B63_0_2
    rw [decide_eq_true (by simp only []; omega), cond_true]
    simp only [fdx hil, Option.bind_some, siz1 hm]
    rw [List.drop_eq_getElem_cons hil]
    by_cases c : -m ≤ l[i] ∧ l[i] ≤ m
    · rw [decide_eq_false (by simpa using c), cond_false, f64 (by omega)]
      obtain ⟨r, e, h⟩ := ih (i + 1) f (by omega) (by omega)
      rw [show ((i + 1 : Nat) : Int) = (i : Int) + 1 by omega] at e
      refine ⟨r, e, ?_⟩
      rw [h]
      simp only [List.forall_mem_cons, c, true_and, and_self]
    · rw [decide_eq_true (by simpa using c), cond_true]
      refine ⟨i, rfl, ?_⟩
      simp only [List.forall_mem_cons, c, false_and, iff_false]
      omega
theorem siz_eq (l : List Int) {m : Int} (hm : 0 ≤ m ∧ m ≤ 4611686018427387904) (hl : l.length ≤ 1200) : F17_0 (m, l) = some (decide (∀ x ∈ l, -m ≤ x ∧ x ≤ m)) := by
  unfold F17_0 F34_0 F63_0 E63_0
  obtain ⟨r, e, h⟩ := siz_loop l hm hl l.length 0 1300 (by omega) (by omega)
  simp only [] at e ⊢
  rw [show fuel63_0 (l, m) = 1300 from rfl, show (0 : Int) = ((0 : Nat) : Int) from rfl, e]
  simp only [Option.bind_some, List.drop_zero] at h ⊢
  rw [← decide_not]
  exact congrArg some (decide_eq_decide.2 (by rw [← h]; omega))
/-! ### Ground and kinds -/
def NumP (t : TR) (k : Int) : Prop := 0 ≤ k ∧ k < (t.2.2.2.2.2.2.2.2.1.length : Int)
instance (t : TR) (k : Int) : Decidable (NumP t k) := by unfold NumP; infer_instance
theorem none_eq (t : TR) (k : Int) : F15_0 (k, t) = some (decide (¬ NumP t k), t) := by
  unfold F15_0 NumP
  by_cases h : k < 0
  · rw [decide_eq_true h, cond_true, decide_eq_true (by omega)]
  · rw [decide_eq_false h, cond_false]
    simp only [Option.some.injEq, Prod.mk.injEq, and_true, decide_eq_decide]; omega
theorem gdK (n : Nat) : K36_1 (n + 1) = B36_1_2 (K36_1 n) := rfl
theorem gd_loop (t : TR) (l : List Int) (hl : l.length ≤ 1200) : ∀ (d i f : Nat), i + d = l.length → d < f →
    ∃ r, K36_1 f (((l.length : Int), (i : Int)), (t, l)) = some (r, (t, l)) ∧ (r < 0 ↔ ∀ x ∈ l.drop i, NumP t x) := by
  intro d
  induction d with
  | zero =>
    intro i f hi hf
    obtain ⟨f, rfl⟩ : ∃ q, f = q + 1 := ⟨f - 1, by omega⟩
    rw [gdK]
    unfold B36_1_2
    rw [decide_eq_false (by simp only []; omega), cond_false]
    refine ⟨-1, rfl, ?_⟩
    rw [List.drop_eq_nil_of_le (by omega)]
    simp
  | succ d ih =>
    intro i f hi hf
    obtain ⟨f, rfl⟩ : ∃ q, f = q + 1 := ⟨f - 1, by omega⟩
    have hil : i < l.length := by omega
    rw [gdK]
    unfold B36_1_2
    rw [decide_eq_true (by simp only []; omega), cond_true]
    simp only [fidx hil, List.getElem?_eq_getElem hil, Option.bind_some, none_eq]
    rw [List.drop_eq_getElem_cons hil]
    by_cases c : NumP t l[i]
    · rw [decide_eq_false (by simpa using c), cond_false, f64 (by omega)]
      obtain ⟨r, e, h⟩ := ih (i + 1) f (by omega) (by omega)
      rw [show ((i + 1 : Nat) : Int) = (i : Int) + 1 by omega] at e
      refine ⟨r, e, ?_⟩
      rw [h]
      simp only [List.forall_mem_cons, c, true_and]
    · rw [decide_eq_true (by simpa using c), cond_true]
      refine ⟨i, rfl, ?_⟩
      simp only [List.forall_mem_cons, c, false_and, iff_false]
      omega
theorem gd_eq (t : TR) (l : List Int) (hl : l.length ≤ 1200) : F19_1 (t, l) = some (decide (¬ ∀ x ∈ l, NumP t x), (t, l)) := by
  unfold F19_1 F36_1 E36_1
  obtain ⟨r, e, h⟩ := gd_loop t l hl l.length 0 1300 (by omega) (by omega)
  simp only [] at e ⊢
  rw [show fuel36_1 (t, l) = 1300 from rfl, show (0 : Int) = ((0 : Nat) : Int) from rfl, e]
  simp only [Option.bind_some, List.drop_zero] at h ⊢
  refine congrArg some (pair_eq (decide_eq_decide.2 ?_) rfl)
  rw [← h]; omega
def KndP (k : Int × Int × Bool) : Prop := (0 ≤ k.1 ∧ k.1 ≤ 8589934592) ∧ (0 ≤ k.2.1 ∧ k.2.1 ≤ 4294967296)
instance (k : Int × Int × Bool) : Decidable (KndP k) := by unfold KndP; infer_instance
theorem odd_eq (k : Int × Int × Bool) : F16_0 k = some (decide (¬ KndP k)) := by
  unfold F16_0 KndP
  obtain ⟨g, d, b⟩ := k
  simp only []
  by_cases h : (if d < g then d else g) < 0
  · rw [decide_eq_true h, cond_true, decide_eq_true (by split at h <;> omega)]
  · rw [decide_eq_false h, cond_false]
    by_cases h2 : g > 8589934592
    · rw [decide_eq_true h2, cond_true, decide_eq_true (by omega)]
    · rw [decide_eq_false h2, cond_false]
      exact congrArg some (decide_eq_decide.2 (by split at h <;> omega))
theorem kdK (n : Nat) : K37_0 (n + 1) = B37_0_2 (K37_0 n) := rfl
theorem kd_loop (l : List (Int × Int × Bool)) (hl : l.length ≤ 20) : ∀ (d i f : Nat), i + d = l.length → d < f →
    ∃ r, K37_0 f (l, ((l.length : Int), (i : Int))) = some r ∧ (r < 0 ↔ ∀ x ∈ l.drop i, KndP x) := by
  intro d
  induction d with
  | zero =>
    intro i f hi hf
    obtain ⟨f, rfl⟩ : ∃ q, f = q + 1 := ⟨f - 1, by omega⟩
    rw [kdK]
    unfold B37_0_2
    rw [decide_eq_false (by simp only []; omega), cond_false]
    refine ⟨-1, rfl, ?_⟩
    rw [List.drop_eq_nil_of_le (by omega)]
    simp
  | succ d ih =>
    intro i f hi hf
    obtain ⟨f, rfl⟩ : ∃ q, f = q + 1 := ⟨f - 1, by omega⟩
    have hil : i < l.length := by omega
    rw [kdK]
    unfold B37_0_2
    rw [decide_eq_true (by simp only []; omega), cond_true]
    simp only [fdx hil, Option.bind_some, odd_eq]
    rw [List.drop_eq_getElem_cons hil]
    by_cases c : KndP l[i]
    · rw [decide_eq_false (by simpa using c), cond_false, f64 (by omega)]
      obtain ⟨r, e, h⟩ := ih (i + 1) f (by omega) (by omega)
      rw [show ((i + 1 : Nat) : Int) = (i : Int) + 1 by omega] at e
      refine ⟨r, e, ?_⟩
      rw [h]
      simp only [List.forall_mem_cons, c, true_and]
    · rw [decide_eq_true (by simpa using c), cond_true]
      refine ⟨i, rfl, ?_⟩
      simp only [List.forall_mem_cons, c, false_and, iff_false]
      omega
theorem kd_eq (l : List (Int × Int × Bool)) (hl : l.length ≤ 20) : F20_0 l = some (decide (¬ ∀ x ∈ l, KndP x)) := by
  unfold F20_0 F37_0 E37_0
  obtain ⟨r, e, h⟩ := kd_loop l hl l.length 0 1000 (by omega) (by omega)
  rw [show fuel37_0 l = 1000 from rfl, show (0 : Int) = ((0 : Nat) : Int) from rfl, e]
  simp only [Option.bind_some, List.drop_zero] at h ⊢
  refine congrArg some (decide_eq_decide.2 ?_)
  rw [← h]; omega
end Go.Proofs.YtneiaaalbpjgiaaGreat.Ev
