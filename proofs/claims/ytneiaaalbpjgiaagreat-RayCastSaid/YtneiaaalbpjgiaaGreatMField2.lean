/- The ground: New and the document's Right. -/
import Derived.Test.YtneiaaalbpjgiaaGreatMField1
set_option linter.unusedVariables false
set_option linter.unusedSimpArgs false
namespace Go.Proofs.YtneiaaalbpjgiaaGreat.Ev
open Go

def PG (l : List Int) (c : Nat) (cell : Int) (j : Nat) : Prop :=
  ((j + 1) % (c + 1) ≠ 0 → -cell ≤ l.getD (j + 1) 0 - l.getD j 0 ∧ l.getD (j + 1) 0 - l.getD j 0 ≤ cell) ∧
  (j + (c + 1) < l.length → -cell ≤ l.getD (j + (c + 1)) 0 - l.getD j 0 ∧ l.getD (j + (c + 1)) 0 - l.getD j 0 ≤ cell)
def Hs (l : List Int) : Prop := ∀ x ∈ l, (-2199023255552 : Int) ≤ x ∧ x ≤ 2199023255552
theorem Hs.at {l : List Int} (h : Hs l) {j : Nat} (hj : j < l.length) : (-2199023255552 : Int) ≤ l.getD j 0 ∧ l.getD j 0 ≤ 2199023255552 :=
  h _ (by simp [List.getD, List.getElem?_eq_getElem hj])
def GenP (l : List Int) (c : Nat) (cell : Int) : Prop := ∀ j, j < l.length → PG l c cell j
theorem gnK (n : Nat) : K18_0 (n + 1) = B18_0_3 (K18_0 n) := rfl
abbrev F5 : Type := Int × Int × Int × Int × Int
theorem one1 {m : Int} (hm : 0 ≤ m ∧ m ≤ 4611686018427387904) (x : Int) : F17_0 (m, [x]) = some (decide (-m ≤ x ∧ x ≤ m)) := by
  rw [siz_eq [x] hm (by simp)]
  simp
open Classical in
theorem gn_loop (w : F5) (hs gr : List Int) {c r : Nat} (hc : c ≤ 64) (hl : hs.length = (c + 1) * (r + 1)) (hl2 : hs.length ≤ 1200) (hH : Hs hs) (hm : 0 ≤ w.1 ∧ w.1 ≤ 4611686018427387904) : ∀ (d i f : Nat), i + d = hs.length → d < f →
    K18_0 f (((c : Int) + 1, ((hs.length : Int), (i : Int))), (w, (hs, gr))) = some (decide (∀ j, i ≤ j → j < hs.length → PG hs c w.1 j), (w, (hs, gr))) := by
  intro d
  induction d with
  | zero =>
    intro i f hi hf
    obtain ⟨f, rfl⟩ : ∃ q, f = q + 1 := ⟨f - 1, by omega⟩
    rw [gnK]
    unfold B18_0_3
    rw [decide_eq_false (by simp only []; omega), cond_false, decide_eq_true (by intro j h1 h2; omega)]
  | succ d ih =>
    intro i f hi hf
    obtain ⟨f, rfl⟩ : ∃ q, f = q + 1 := ⟨f - 1, by omega⟩
    have hil : i < hs.length := by omega
    have hi0 := hH.at hil
    have nx := ih (i + 1) f (by omega) (by omega)
    rw [show ((i + 1 : Nat) : Int) = (i : Int) + 1 by omega] at nx
    have st : PG hs c w.1 i → (∀ j, i + 1 ≤ j → j < hs.length → PG hs c w.1 j) = (∀ j, i ≤ j → j < hs.length → PG hs c w.1 j) := by
      intro h0
      refine propext ⟨fun h j h1 h2 => ?_, fun h j h1 h2 => h j (by omega) h2⟩
      by_cases e : j = i
      · rw [e]; exact h0
      · exact h j (by omega) h2
    have no : ¬ PG hs c w.1 i → ¬ (∀ j, i ≤ j → j < hs.length → PG hs c w.1 j) := fun h0 h => h0 (h i (Nat.le_refl _) hil)
    rw [gnK]
    unfold B18_0_3
    rw [decide_eq_true (by simp only []; omega), cond_true]
    have e1 : IntKind.wrap .i64 ((i : Int) + 1) = ((i + 1 : Nat) : Int) := by rw [f64 (by omega)]; omega
    have e2 : IntKind.wrap .i64 ((i : Int) + ((c : Int) + 1)) = ((i + (c + 1) : Nat) : Int) := by rw [f64 (by omega)]; omega
    have e3 : Int.tmod ((i + 1 : Nat) : Int) ((c : Int) + 1) = (((i + 1) % (c + 1) : Nat) : Int) := by
      rw [tmod_nn (by omega), show (c : Int) + 1 = ((c + 1 : Nat) : Int) by omega, ← Int.natCast_emod]
    simp only [fidx hil, fgD hil, Option.bind_some, e1, e2, e3, show ((c : Int) + 1 != 0) = true by simp; omega, chk, cond_true]
    by_cases c1 : (i + 1) % (c + 1) = 0
    · rw [show ((((i + 1) % (c + 1) : Nat) : Int) != 0) = false by simp [c1], cond_false]
      by_cases c2 : i + (c + 1) < hs.length
      · rw [decide_eq_true (show ((i + (c + 1) : Nat) : Int) < (hs.length : Int) by omega), cond_true]
        have hj := hH.at c2
        simp only [fidx c2, fgD c2, Option.bind_some]
        rw [f64 (by omega), one1 hm]
        simp only [Option.bind_some]
        by_cases c3 : -w.1 ≤ hs.getD (i + (c + 1)) 0 - hs.getD i 0 ∧ hs.getD (i + (c + 1)) 0 - hs.getD i 0 ≤ w.1
        · rw [decide_eq_true c3, Bool.not_true, cond_false, ← st ⟨fun h => absurd c1 h, fun _ => c3⟩]; exact nx
        · rw [decide_eq_false c3, Bool.not_false, cond_true, decide_eq_false (no fun h => c3 (h.2 c2))]
      · rw [decide_eq_false (show ¬ ((i + (c + 1) : Nat) : Int) < (hs.length : Int) by omega), cond_false, ← st ⟨fun h => absurd c1 h, fun h => absurd h c2⟩]; exact nx
    · rw [show ((((i + 1) % (c + 1) : Nat) : Int) != 0) = true from bne_iff_ne.2 (fun h => c1 (Int.natCast_eq_zero.1 h)), cond_true]
      have hi1 : i + 1 < hs.length := by
        by_cases h : i + 1 < hs.length
        · exact h
        · exfalso; apply c1; rw [show i + 1 = (c + 1) * (r + 1) by omega]; exact Nat.mul_mod_right _ _
      have hj1 := hH.at hi1
      simp only [fidx hi1, fgD hi1, Option.bind_some]
      rw [f64 (by omega), one1 hm]
      simp only [Option.bind_some]
      by_cases c4 : -w.1 ≤ hs.getD (i + 1) 0 - hs.getD i 0 ∧ hs.getD (i + 1) 0 - hs.getD i 0 ≤ w.1
      case neg => rw [decide_eq_false c4, Bool.not_false, cond_true, decide_eq_false (no fun h => c4 (h.1 c1))]
      rw [decide_eq_true c4, Bool.not_true, cond_false]
      by_cases c2 : i + (c + 1) < hs.length
      · rw [decide_eq_true (show ((i + (c + 1) : Nat) : Int) < (hs.length : Int) by omega), cond_true]
        have hj := hH.at c2
        simp only [fidx c2, fgD c2, Option.bind_some]
        rw [f64 (by omega), one1 hm]
        simp only [Option.bind_some]
        by_cases c3 : -w.1 ≤ hs.getD (i + (c + 1)) 0 - hs.getD i 0 ∧ hs.getD (i + (c + 1)) 0 - hs.getD i 0 ≤ w.1
        · rw [decide_eq_true c3, Bool.not_true, cond_false, ← st ⟨fun _ => c4, fun _ => c3⟩]; exact nx
        · rw [decide_eq_false c3, Bool.not_false, cond_true, decide_eq_false (no fun h => c3 (h.2 c2))]
      · rw [decide_eq_false (show ¬ ((i + (c + 1) : Nat) : Int) < (hs.length : Int) by omega), cond_false, ← st ⟨fun _ => c4, fun h => absurd h c2⟩]; exact nx
open Classical in
theorem gn_eq (w : F5) (hs gr : List Int) {c r : Nat} (hw : w.2.1 = (c : Int)) (hc : c ≤ 64) (hl : hs.length = (c + 1) * (r + 1)) (hl2 : hs.length ≤ 1200) (hH : Hs hs) (hm : 0 ≤ w.1 ∧ w.1 ≤ 4611686018427387904) :
    F18_0 (w, (gr, hs)) = some (decide (GenP hs c w.1), (w, (hs, gr))) := by
  have := gn_loop w hs gr hc hl hl2 hH hm hs.length 0 1300 (by omega) (by omega)
  unfold F18_0 E18_0
  simp only []
  rw [show fuel18_0 (w, (gr, hs)) = 1300 from rfl, hw, f64 (by omega), show (0 : Int) = ((0 : Nat) : Int) from rfl, this]
  refine congrArg some (pair_eq (decide_eq_decide.2 ?_) rfl)
  exact ⟨fun h j hj => h j (Nat.zero_le _) hj, fun h j _ hj => h j hj⟩
/-! ### The document's -/
theorem htK1 (n : Nat) : (K32_0 (n + 1)).1 = B32_0_2 (K32_0 n) := rfl
theorem htK2 (n : Nat) : (K32_0 (n + 1)).2 = B32_0_7 (K32_0 n) := rfl
open Classical in
theorem ht_loop (t : TR) {c r : Nat} (hw : t.2.2.1 = (c : Int)) (hr : t.2.2.2.1 = (r : Int)) (hc : c ≤ 64) (hl : t.2.2.2.2.2.2.1.length = (c + 1) * (r + 1)) (hl2 : t.2.2.2.2.2.2.1.length ≤ 1200) (hH : Hs t.2.2.2.2.2.2.1) (hm : 0 ≤ t.2.1 ∧ t.2.1 ≤ 4611686018427387904) : ∀ (d i f : Nat), i + d = t.2.2.2.2.2.2.1.length → d < f →
    (K32_0 f).2 ((i : Int), t) = some (decide (∀ j, i ≤ j → j < t.2.2.2.2.2.2.1.length → PG t.2.2.2.2.2.2.1 c t.2.1 j)) := by
  intro d
  induction d with
  | zero =>
    intro i f hi hf
    obtain ⟨f, rfl⟩ : ∃ q, f = q + 1 := ⟨f - 1, by omega⟩
    rw [htK2]
    unfold B32_0_7
    rw [decide_eq_false (by simp only []; omega), cond_false, decide_eq_true (by intro j h1 h2; omega)]
  | succ d ih =>
    intro i f hi hf
    obtain ⟨f, rfl⟩ : ∃ q, f = q + 1 := ⟨f - 1, by omega⟩
    have nx := ih (i + 1) f (by omega) (by omega)
    generalize hhs : t.2.2.2.2.2.2.1 = hs at *
    have hil : i < hs.length := by omega
    have hi0 := hH.at hil
    rw [show ((i + 1 : Nat) : Int) = (i : Int) + 1 by omega] at nx
    have st : PG hs c t.2.1 i → (∀ j, i + 1 ≤ j → j < hs.length → PG hs c t.2.1 j) = (∀ j, i ≤ j → j < hs.length → PG hs c t.2.1 j) := by
      intro h0
      refine propext ⟨fun h j h1 h2 => ?_, fun h j h1 h2 => h j (by omega) h2⟩
      by_cases e : j = i
      · rw [e]; exact h0
      · exact h j (by omega) h2
    have no : ¬ PG hs c t.2.1 i → ¬ (∀ j, i ≤ j → j < hs.length → PG hs c t.2.1 j) := fun h0 h => h0 (h i (Nat.le_refl _) hil)
    rw [htK2]
    unfold B32_0_7
    simp only [hhs, hw, hr]
    rw [decide_eq_true (by omega), cond_true]
    have e1 : IntKind.wrap .i64 ((i : Int) + 1) = ((i + 1 : Nat) : Int) := by rw [f64 (by omega)]; omega
    have e0 : IntKind.wrap .i64 ((c : Int) + 1) = ((c + 1 : Nat) : Int) := by rw [f64 (by omega)]; omega
    have e2 : IntKind.wrap .i64 (IntKind.wrap .i64 ((i : Int) + (c : Int)) + 1) = ((i + (c + 1) : Nat) : Int) := by rw [f64 (show -9223372036854775808 ≤ (i : Int) + (c : Int) ∧ (i : Int) + (c : Int) ≤ 9223372036854775807 by omega), f64 (by omega)]; omega
    have e3 : Int.tmod (i : Int) ((c + 1 : Nat) : Int) = ((i % (c + 1) : Nat) : Int) := by
      rw [tmod_nn (by omega), ← Int.natCast_emod]
    have e4 : IntKind.wrap .i64 (Int.tdiv (i : Int) ((c + 1 : Nat) : Int)) = ((i / (c + 1) : Nat) : Int) := by
      have := Nat.div_le_self i (c + 1)
      rw [tdiv_nn (by omega), ← Int.natCast_ediv]
      generalize i / (c + 1) = q at this ⊢
      exact f64 (by omega)
    have e5 : IntKind.wrap .i64 (0 - t.2.1) = -t.2.1 := by rw [f64 (by omega)]; omega
    have m1 : i % (c + 1) < c ↔ (i + 1) % (c + 1) ≠ 0 := by
      have h1 := Nat.succ_mod_succ_eq_zero_iff (a := i) (b := c)
      have h2 := Nat.mod_lt i (show 0 < c + 1 by omega)
      omega
    have m2 : i / (c + 1) < r ↔ i + (c + 1) < hs.length := by
      rw [Nat.div_lt_iff_lt_mul (by omega), hl, show (c + 1) * (r + 1) = r * (c + 1) + (c + 1) by rw [Nat.mul_comm, Nat.add_mul, Nat.one_mul]]; omega
    simp only [e0, e1, e2, e3, e4, e5, Option.bind_some, show (((c + 1 : Nat) : Int) != 0) = true by simp; omega, chk, cond_true]
    by_cases c1 : (i + 1) % (c + 1) = 0
    · rw [decide_eq_false (show ¬ ((i % (c + 1) : Nat) : Int) < (c : Int) from fun h => m1.1 (Int.ofNat_lt.1 h) c1), cond_false]
      by_cases c2 : i + (c + 1) < hs.length
      · rw [decide_eq_true (show ((i / (c + 1) : Nat) : Int) < (r : Int) from Int.ofNat_lt.2 (m2.2 c2)), cond_true]
        have hj := hH.at c2
        simp only [fdD c2, fdD hil, Option.bind_some]
        rw [f64 (by omega), in_eq]
        simp only [Option.bind_some]
        by_cases c3 : -t.2.1 ≤ hs.getD (i + (c + 1)) 0 - hs.getD i 0 ∧ hs.getD (i + (c + 1)) 0 - hs.getD i 0 ≤ t.2.1
        · rw [decide_eq_true c3, Bool.not_true, cond_false, ← st ⟨fun h => absurd c1 h, fun _ => c3⟩]; exact nx
        · rw [decide_eq_false c3, Bool.not_false, cond_true, decide_eq_false (no fun h => c3 (h.2 c2))]
      · rw [decide_eq_false (show ¬ ((i / (c + 1) : Nat) : Int) < (r : Int) from fun h => c2 (m2.1 (Int.ofNat_lt.1 h))), cond_false, ← st ⟨fun h => absurd c1 h, fun h => absurd h c2⟩]; exact nx
    · rw [decide_eq_true (show ((i % (c + 1) : Nat) : Int) < (c : Int) from Int.ofNat_lt.2 (m1.2 c1)), cond_true]
      have hi1 : i + 1 < hs.length := by
        by_cases h : i + 1 < hs.length
        · exact h
        · exfalso; apply c1; rw [show i + 1 = (c + 1) * (r + 1) by omega]; exact Nat.mul_mod_right _ _
      have hj1 := hH.at hi1
      simp only [fdD hi1, fdD hil, Option.bind_some]
      rw [f64 (by omega), in_eq]
      simp only [Option.bind_some]
      by_cases c4 : -t.2.1 ≤ hs.getD (i + 1) 0 - hs.getD i 0 ∧ hs.getD (i + 1) 0 - hs.getD i 0 ≤ t.2.1
      case neg => rw [decide_eq_false c4, Bool.not_false, cond_true, decide_eq_false (no fun h => c4 (h.1 c1))]
      rw [decide_eq_true c4, Bool.not_true, cond_false]
      by_cases c2 : i + (c + 1) < hs.length
      · rw [decide_eq_true (show ((i / (c + 1) : Nat) : Int) < (r : Int) from Int.ofNat_lt.2 (m2.2 c2)), cond_true]
        have hj := hH.at c2
        simp only [fdD c2, fdD hil, Option.bind_some]
        rw [f64 (by omega), in_eq]
        simp only [Option.bind_some]
        by_cases c3 : -t.2.1 ≤ hs.getD (i + (c + 1)) 0 - hs.getD i 0 ∧ hs.getD (i + (c + 1)) 0 - hs.getD i 0 ≤ t.2.1
        · rw [decide_eq_true c3, Bool.not_true, cond_false, ← st ⟨fun _ => c4, fun _ => c3⟩]; exact nx
        · rw [decide_eq_false c3, Bool.not_false, cond_true, decide_eq_false (no fun h => c3 (h.2 c2))]
      · rw [decide_eq_false (show ¬ ((i / (c + 1) : Nat) : Int) < (r : Int) from fun h => c2 (m2.1 (Int.ofNat_lt.1 h))), cond_false, ← st ⟨fun _ => c4, fun h => absurd h c2⟩]; exact nx
theorem h1_loop (t : TR) (hl2 : t.2.2.2.2.2.2.1.length ≤ 1200) : ∀ (d i f : Nat), i + d = t.2.2.2.2.2.2.1.length → d + 1202 < f →
    (K32_0 f).1 ((i : Int), t) = some false ∧ (¬ ∀ x ∈ t.2.2.2.2.2.2.1.drop i, (-2199023255552 : Int) ≤ x ∧ x ≤ 2199023255552) ∨
    (∃ f', 1201 < f' ∧ (K32_0 f).1 ((i : Int), t) = (K32_0 f').2 (0, t)) ∧ (∀ x ∈ t.2.2.2.2.2.2.1.drop i, (-2199023255552 : Int) ≤ x ∧ x ≤ 2199023255552) := by
  intro d
  induction d with
  | zero =>
    intro i f hi hf
    obtain ⟨f, rfl⟩ : ∃ q, f = q + 1 := ⟨f - 1, by omega⟩
    refine Or.inr ⟨⟨f, by omega, ?_⟩, ?_⟩
    · rw [htK1]
      unfold B32_0_2
      rw [decide_eq_false (by simp only []; omega), cond_false]
    · rw [List.drop_eq_nil_of_le (by omega)]; simp
  | succ d ih =>
    intro i f hi hf
    obtain ⟨f, rfl⟩ : ∃ q, f = q + 1 := ⟨f - 1, by omega⟩
    have hil : i < t.2.2.2.2.2.2.1.length := by omega
    rw [htK1]
    unfold B32_0_2
    rw [decide_eq_true (by simp only []; omega), cond_true]
    simp only [fdx hil, Option.bind_some, in_eq]
    rw [List.drop_eq_getElem_cons hil]
    by_cases c : (-2199023255552 : Int) ≤ t.2.2.2.2.2.2.1[i] ∧ t.2.2.2.2.2.2.1[i] ≤ 2199023255552
    · have nx := ih (i + 1) f (by omega) (by omega)
      rw [show ((i + 1 : Nat) : Int) = (i : Int) + 1 by omega] at nx
      rw [decide_eq_true c, Bool.not_true, cond_false, f64 (by omega)]
      simp only [List.forall_mem_cons, c, true_and, and_self]
      exact nx
    · rw [decide_eq_false c, Bool.not_false, cond_true]
      exact Or.inl ⟨rfl, fun h => c (h _ (List.mem_cons_self ..))⟩
open Classical in
theorem ht_eq (t : TR) {c r : Nat} (hw : t.2.2.1 = (c : Int)) (hr : t.2.2.2.1 = (r : Int)) (hc : c ≤ 64) (hl : t.2.2.2.2.2.2.1.length = (c + 1) * (r + 1)) (hl2 : t.2.2.2.2.2.2.1.length ≤ 1200) (hm : 0 ≤ t.2.1 ∧ t.2.1 ≤ 4611686018427387904) :
    F32_0 t = some (decide (Hs t.2.2.2.2.2.2.1 ∧ GenP t.2.2.2.2.2.2.1 c t.2.1)) := by
  unfold F32_0 E32_0
  rcases h1_loop t hl2 t.2.2.2.2.2.2.1.length 0 3000 (by omega) (by omega) with ⟨e, h⟩ | ⟨⟨f, hf, e⟩, h⟩
  · rw [List.drop_zero] at h
    rw [show fuel32_0 t = 3000 from rfl, show (0 : Int) = ((0 : Nat) : Int) from rfl, e, decide_eq_false (fun k => h k.1)]
  · rw [List.drop_zero] at h
    have nx := ht_loop t hw hr hc hl hl2 h hm t.2.2.2.2.2.2.1.length 0 f (by omega) (by omega)
    rw [show fuel32_0 t = 3000 from rfl, show (0 : Int) = ((0 : Nat) : Int) from rfl, e]
    refine Eq.trans nx (congrArg some (decide_eq_decide.2 ?_))
    exact ⟨fun k => ⟨h, fun j hj => k j (Nat.zero_le _) hj⟩, fun k j _ hj => k.2 j hj⟩
/-! ### All in all -/
theorem rtK1 (n : Nat) : (K10_0 (n + 1)).1 = B10_0_6 (K10_0 n) := rfl
theorem rtK2 (n : Nat) : (K10_0 (n + 1)).2 = B10_0_11 (K10_0 n) := rfl
open Classical in
theorem r2_loop (t : TR) (hl : t.2.2.2.2.2.2.2.2.1.length ≤ 20) : ∀ (d i f : Nat), i + d = t.2.2.2.2.2.2.2.2.1.length → d < f →
    (K10_0 f).2 ((i : Int), t) = some (if ∀ x ∈ t.2.2.2.2.2.2.2.2.1.drop i, KndP x then 0 else 40) := by
  intro d
  induction d with
  | zero =>
    intro i f hi hf
    obtain ⟨f, rfl⟩ : ∃ q, f = q + 1 := ⟨f - 1, by omega⟩
    rw [rtK2]
    unfold B10_0_11
    rw [decide_eq_false (by simp only []; omega), cond_false, List.drop_eq_nil_of_le (by omega), if_pos (by simp)]
  | succ d ih =>
    intro i f hi hf
    obtain ⟨f, rfl⟩ : ∃ q, f = q + 1 := ⟨f - 1, by omega⟩
    have hil : i < t.2.2.2.2.2.2.2.2.1.length := by omega
    rw [rtK2]
    unfold B10_0_11
    rw [decide_eq_true (by simp only []; omega), cond_true]
    simp only [fdx hil, Option.bind_some, in_eq]
    rw [List.drop_eq_getElem_cons hil]
    have nx := ih (i + 1) f (by omega) (by omega)
    rw [show ((i + 1 : Nat) : Int) = (i : Int) + 1 by omega] at nx
    by_cases c1 : 0 ≤ t.2.2.2.2.2.2.2.2.1[i].1 ∧ t.2.2.2.2.2.2.2.2.1[i].1 ≤ 8589934592
    · rw [decide_eq_true c1, Bool.not_true, cond_false]
      by_cases c2 : 0 ≤ t.2.2.2.2.2.2.2.2.1[i].2.1 ∧ t.2.2.2.2.2.2.2.2.1[i].2.1 ≤ 4294967296
      · rw [decide_eq_true c2, Bool.not_true, cond_false, f64 (by omega), nx]
        have : KndP t.2.2.2.2.2.2.2.2.1[i] := ⟨c1, c2⟩
        simp only [List.forall_mem_cons, this, true_and]
      · rw [decide_eq_false c2, Bool.not_false, cond_true, if_neg (fun h => c2 (h _ (List.mem_cons_self ..)).2)]
    · rw [decide_eq_false c1, Bool.not_false, cond_true, if_neg (fun h => c1 (h _ (List.mem_cons_self ..)).1)]
open Classical in
theorem r1_loop (t : TR) (hl : t.2.2.2.2.2.2.2.2.1.length ≤ 20) (hg : t.2.2.2.2.2.2.2.1.length ≤ 1200) : ∀ (d i f : Nat), i + d = t.2.2.2.2.2.2.2.1.length → d + 22 < f →
    (K10_0 f).1 ((i : Int), t) = some (if (∀ x ∈ t.2.2.2.2.2.2.2.1.drop i, NumP t x) ∧ ∀ x ∈ t.2.2.2.2.2.2.2.2.1, KndP x then 0 else 40) := by
  intro d
  induction d with
  | zero =>
    intro i f hi hf
    obtain ⟨f, rfl⟩ : ∃ q, f = q + 1 := ⟨f - 1, by omega⟩
    rw [rtK1]
    unfold B10_0_6
    have := r2_loop t hl t.2.2.2.2.2.2.2.2.1.length 0 f (by omega) (by omega)
    rw [decide_eq_false (by simp only []; omega), cond_false, List.drop_eq_nil_of_le (by omega), show (0 : Int) = ((0 : Nat) : Int) from rfl]
    refine Eq.trans this (congrArg some ?_)
    simp
  | succ d ih =>
    intro i f hi hf
    obtain ⟨f, rfl⟩ : ∃ q, f = q + 1 := ⟨f - 1, by omega⟩
    have hil : i < t.2.2.2.2.2.2.2.1.length := by omega
    rw [rtK1]
    unfold B10_0_6
    rw [decide_eq_true (by simp only []; omega), cond_true]
    simp only [fdx hil, Option.bind_some]
    rw [List.drop_eq_getElem_cons hil]
    have nx := ih (i + 1) f (by omega) (by omega)
    rw [show ((i + 1 : Nat) : Int) = (i : Int) + 1 by omega] at nx
    by_cases c1 : t.2.2.2.2.2.2.2.1[i] < 0
    · rw [decide_eq_true c1, cond_true, if_neg (fun h => by have := (h.1 _ (List.mem_cons_self ..)).1; omega)]
    · rw [decide_eq_false c1, cond_false]
      by_cases c2 : t.2.2.2.2.2.2.2.1[i] ≥ (t.2.2.2.2.2.2.2.2.1.length : Int)
      · rw [decide_eq_true c2, cond_true, if_neg (fun h => by have := (h.1 _ (List.mem_cons_self ..)).2; omega)]
      · rw [decide_eq_false c2, cond_false, f64 (by omega), nx]
        have : NumP t t.2.2.2.2.2.2.2.1[i] := ⟨by omega, by omega⟩
        simp only [List.forall_mem_cons, this, true_and]
def RngP (t : TR) : Prop := (17179869184 ≤ t.2.1 ∧ t.2.1 ≤ 274877906944) ∧ ((-140737488355328 ≤ t.2.2.2.2.1 ∧ t.2.2.2.2.1 ≤ 140737488355328) ∧ (-140737488355328 ≤ t.2.2.2.2.2.1 ∧ t.2.2.2.2.2.1 ≤ 140737488355328)) ∧ Hs t.2.2.2.2.2.2.1 ∧ GenP t.2.2.2.2.2.2.1 t.2.2.1.toNat t.2.1 ∧ (∀ x ∈ t.2.2.2.2.2.2.2.1, NumP t x) ∧ ∀ x ∈ t.2.2.2.2.2.2.2.2.1, KndP x
def FewP (t : TR) : Prop := t.2.2.2.2.2.2.1.length ≤ 1200 ∧ t.2.2.2.2.2.2.2.1.length ≤ 1000 ∧ t.2.2.2.2.2.2.2.2.1.length ≤ 20
theorem CntP.nat {t : TR} (h : CntP t) : ∃ c r : Nat, t.2.2.1 = (c : Int) ∧ t.2.2.2.1 = (r : Int) ∧ (1 ≤ c ∧ c ≤ 64) ∧ (1 ≤ r ∧ r ≤ 64) ∧ t.2.2.2.2.2.2.1.length = (c + 1) * (r + 1) ∧ t.2.2.2.2.2.2.2.1.length = c * r := by
  obtain ⟨⟨a1, a2⟩, ⟨b1, b2⟩, h1, h2, _⟩ := h
  obtain ⟨c, e1⟩ := Int.eq_ofNat_of_zero_le (show 0 ≤ t.2.2.1 by omega)
  obtain ⟨r, e2⟩ := Int.eq_ofNat_of_zero_le (show 0 ≤ t.2.2.2.1 by omega)
  rw [e1, e2] at h1 h2
  refine ⟨c, r, e1, e2, by omega, by omega, ?_, ?_⟩
  · apply Int.ofNat.inj; show (t.2.2.2.2.2.2.1.length : Int) = (((c + 1) * (r + 1) : Nat) : Int); rw [h1, Int.natCast_mul]; rfl
  · apply Int.ofNat.inj; show (t.2.2.2.2.2.2.2.1.length : Int) = ((c * r : Nat) : Int); rw [h2, Int.natCast_mul]
open Classical in
theorem right_eq (t : TR) (hf : FewP t) : F10_0 t = some (if CntP t then if RngP t then 0 else 40 else 42) := by
  unfold F10_0 E10_0
  simp only [(cnt_eq t).2, Option.bind_some, in_eq]
  by_cases hC : CntP t
  case neg => rw [decide_eq_false hC, if_neg hC]; rfl
  rw [decide_eq_true hC, if_pos hC, Bool.not_true, cond_false]
  obtain ⟨c, r, ec, er, hc, hr, hl, hg⟩ := hC.nat
  by_cases h1 : 17179869184 ≤ t.2.1 ∧ t.2.1 ≤ 274877906944
  case neg => rw [decide_eq_false h1, if_neg (fun h => h1 h.1)]; rfl
  rw [decide_eq_true h1, Bool.not_true, cond_false]
  by_cases h2 : -140737488355328 ≤ t.2.2.2.2.1 ∧ t.2.2.2.2.1 ≤ 140737488355328
  case neg => rw [decide_eq_false h2, if_neg (fun h => h2 h.2.1.1)]; rfl
  rw [decide_eq_true h2, Bool.not_true, cond_false]
  by_cases h3 : -140737488355328 ≤ t.2.2.2.2.2.1 ∧ t.2.2.2.2.2.1 ≤ 140737488355328
  case neg => rw [decide_eq_false h3, if_neg (fun h => h3 h.2.1.2)]; rfl
  rw [decide_eq_true h3, Bool.not_true, cond_false, ht_eq t ec er hc.2 hl hf.1 (by omega)]
  simp only [Option.bind_some]
  by_cases h4 : Hs t.2.2.2.2.2.2.1 ∧ GenP t.2.2.2.2.2.2.1 c t.2.1
  case neg => rw [decide_eq_false h4, if_neg (fun h => h4 ⟨h.2.2.1, by have := h.2.2.2.1; rwa [ec] at this⟩)]; rfl
  rw [decide_eq_true h4, Bool.not_true, cond_false]
  have := r1_loop t hf.2.2 (by have := hf.2.1; omega) t.2.2.2.2.2.2.2.1.length 0 1300 (by omega) (by have := hf.2.1; omega)
  rw [List.drop_zero] at this
  rw [show fuel10_0 t = 1300 from rfl]
  refine Eq.trans this (congrArg some ?_)
  by_cases h5 : (∀ x ∈ t.2.2.2.2.2.2.2.1, NumP t x) ∧ ∀ x ∈ t.2.2.2.2.2.2.2.2.1, KndP x
  · rw [if_pos h5, if_pos ⟨h1, ⟨h2, h3⟩, h4.1, by rw [ec]; exact h4.2, h5⟩]
  · rw [if_neg h5, if_neg (fun h => h5 h.2.2.2.2)]
abbrev TF : Type := F5 × List Int × List Int
def fldT (t : TR) : TF := ((t.2.1, (t.2.2.1, (t.2.2.2.1, (t.2.2.2.2.1, t.2.2.2.2.2.1)))), (t.2.2.2.2.2.2.2.1, t.2.2.2.2.2.2.1))
open Classical in
theorem new_eq (t : TR) (hf : FewP t) : F6_0 t = some (if CntP t then if RngP t then .inr (0, fldT t) else .inl 40 else .inl 42) := by
  have cl1 : F13_0 t.2.2.2.2.2.2.1 = some t.2.2.2.2.2.2.1 := by
    unfold F13_0 F13_r
    rw [decide_eq_true (by have := hf.1; simp; omega)]; rfl
  have cl2 : F14_0 t.2.2.2.2.2.2.2.1 = some t.2.2.2.2.2.2.2.1 := by
    unfold F14_0 F14_r
    rw [decide_eq_true (by have := hf.2.1; simp; omega)]; rfl
  unfold F6_0
  simp only [(cnt_eq t).1, Option.bind_some]
  by_cases hC : CntP t
  case neg => rw [decide_eq_false hC, if_neg hC]; rfl
  rw [decide_eq_true hC, if_pos hC, Bool.not_true, cond_false]
  obtain ⟨c, r, ec, er, hc, hr, hl, hg⟩ := hC.nat
  simp only [cl1, cl2, Option.bind_some]
  by_cases h1 : t.2.1 < 17179869184
  · rw [decide_eq_true h1, if_neg (fun h => by have := h.1; omega)]; rfl
  rw [decide_eq_false h1, cond_false]
  by_cases h1' : t.2.1 > 274877906944
  · rw [decide_eq_true h1', if_neg (fun h => by have := h.1; omega)]; rfl
  rw [decide_eq_false h1', cond_false, siz_eq _ (by omega) (by simp), siz_eq _ (by omega) hf.1]
  simp only [Option.bind_some, List.forall_mem_cons, List.not_mem_nil, false_implies, implies_true, and_true]
  by_cases h2 : (-140737488355328 ≤ t.2.2.2.2.1 ∧ t.2.2.2.2.1 ≤ 140737488355328) ∧ (-140737488355328 ≤ t.2.2.2.2.2.1 ∧ t.2.2.2.2.2.1 ≤ 140737488355328)
  case neg => rw [decide_eq_false h2, if_neg (fun h => h2 h.2.1)]; rfl
  rw [decide_eq_true h2, Bool.not_true, cond_false]
  by_cases h3 : ∀ x ∈ t.2.2.2.2.2.2.1, (-2199023255552 : Int) ≤ x ∧ x ≤ 2199023255552
  case neg => rw [decide_eq_false h3, if_neg (fun h => h3 h.2.2.1)]; rfl
  rw [decide_eq_true h3, Bool.not_true, cond_false, gn_eq (t.2.1, (t.2.2.1, (t.2.2.2.1, (t.2.2.2.2.1, t.2.2.2.2.2.1)))) t.2.2.2.2.2.2.1 t.2.2.2.2.2.2.2.1 ec hc.2 hl hf.1 h3 (by simp only []; omega)]
  simp only [Option.bind_some]
  by_cases h4 : GenP t.2.2.2.2.2.2.1 c t.2.1
  case neg => rw [decide_eq_false h4, if_neg (fun h => h4 (by have := h.2.2.2.1; rwa [ec] at this))]; rfl
  rw [decide_eq_true h4, Bool.not_true, cond_false, gd_eq t t.2.2.2.2.2.2.2.1 (by have := hf.2.1; omega)]
  simp only [Option.bind_some]
  by_cases h5 : ∀ x ∈ t.2.2.2.2.2.2.2.1, NumP t x
  case neg => rw [decide_eq_true h5, if_neg (fun h => h5 h.2.2.2.2.1)]; rfl
  rw [decide_eq_false (fun h => h h5), cond_false, kd_eq _ hf.2.2]
  simp only [Option.bind_some]
  by_cases h6 : ∀ x ∈ t.2.2.2.2.2.2.2.2.1, KndP x
  case neg => rw [decide_eq_true h6, if_neg (fun h => h6 h.2.2.2.2.2)]; rfl
  rw [decide_eq_false (fun h => h h6), cond_false, if_pos ⟨⟨by omega, by omega⟩, h2, h3, by rw [ec]; exact h4, h5, h6⟩]
  rfl
theorem few_eq (t : TR) : ∃ b, F9_0 t = some b ∧ (b = true ↔ FewP t) := by
  unfold F9_0 FewP
  by_cases h1 : (t.2.2.2.2.2.2.1.length : Int) ≤ 1200
  · rw [decide_eq_true h1, cond_true]
    by_cases h2 : (t.2.2.2.2.2.2.2.1.length : Int) ≤ 1000
    · rw [decide_eq_true h2, cond_true]
      exact ⟨_, rfl, by rw [decide_eq_true_eq]; omega⟩
    · rw [decide_eq_false h2, cond_false]
      exact ⟨_, rfl, by simp; omega⟩
  · rw [decide_eq_false h1, cond_false]
    exact ⟨_, rfl, by simp; omega⟩
end Go.Proofs.YtneiaaalbpjgiaaGreat.Ev
