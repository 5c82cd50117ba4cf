/- Sides, and where moves cross: what the program reckons, and what the document does. -/
import Derived.Test.YtfhhpfhmplgndaaMSign
import Derived.Test.YtfhhpfhmplgndaaMRef1M
set_option linter.unusedVariables false
set_option linter.unusedSimpArgs false
namespace Go.Proofs.Ytfhhpfhmplgndaa.Ev
open Go

abbrev V2 : Type := Int × Int
def NearP (p : V2) : Prop := -281474976710656 ≤ p.1 ∧ p.1 ≤ 281474976710656 ∧ -281474976710656 ≤ p.2 ∧ p.2 ≤ 281474976710656
instance (p : V2) : Decidable (NearP p) := by unfold NearP; infer_instance
theorem rdx_at {α : Type} {l : List α} {i : Nat} {x : α} (h : l[i]? = some x) : rdx l (i : Int) = some x := by
  unfold rdx
  rw [decide_eq_true (by omega)]
  simpa using h
theorem idx_at {i n : Nat} (h : i < n) : idx (i : Int) n = some i := by
  unfold idx
  rw [decide_eq_true (by omega)]
  simp
theorem rnearK (n : Nat) (v) : K80_0 (n + 1) v = B80_0_2 (K80_0 n) v := rfl
theorem rnear_loop (l : List V2) (hl : l.length ≤ 900) : ∀ (d i n : Nat), i + d = l.length → d < n → K80_0 n (l, (i : Int)) = some ((l.drop i).all fun p => decide (NearP p)) := by
  intro d
  induction d with
  | zero =>
    intro i n h hn
    obtain ⟨n, rfl⟩ : ∃ m, n = m + 1 := ⟨n - 1, by omega⟩
    rw [rnearK]
    unfold B80_0_2
    simp only [show decide ((i : Int) < (l.length : Int)) = false from decide_eq_false (by omega), cond_false, List.drop_eq_nil_of_le (show l.length ≤ i by omega), List.all_nil]
  | succ d ih =>
    intro i n h hn
    obtain ⟨n, rfl⟩ : ∃ m, n = m + 1 := ⟨n - 1, by omega⟩
    have hi : i < l.length := by omega
    rw [rnearK]
    unfold B80_0_2
    have hg : l[i]? = some l[i] := List.getElem?_eq_getElem hi
    simp only [show decide ((i : Int) < (l.length : Int)) = true from decide_eq_true (by omega), cond_true, rdx_at hg, Option.bind_some]
    rw [List.drop_eq_getElem_cons hi, List.all_cons]
    generalize l[i] = p
    have ew : IntKind.wrap .i64 ((i : Int) + 1) = ((i + 1 : Nat) : Int) := by rw [IntKind.wrap_i64]; omega
    rw [ew, ih (i + 1) n (by omega) (by omega)]
    by_cases h1 : p.1 > 281474976710656
    · rw [decide_eq_true h1, cond_true, decide_eq_false (show ¬ NearP p by unfold NearP; omega), Bool.false_and]
    · rw [decide_eq_false h1, cond_false]
      by_cases h2 : p.1 < -281474976710656
      · rw [decide_eq_true h2, cond_true, decide_eq_false (show ¬ NearP p by unfold NearP; omega), Bool.false_and]
      · rw [decide_eq_false h2, cond_false]
        by_cases h3 : p.2 > 281474976710656
        · rw [decide_eq_true h3, cond_true, decide_eq_false (show ¬ NearP p by unfold NearP; omega), Bool.false_and]
        · rw [decide_eq_false h3, cond_false]
          by_cases h4 : p.2 < -281474976710656
          · rw [decide_eq_true h4, cond_true, decide_eq_false (show ¬ NearP p by unfold NearP; omega), Bool.false_and]
          · rw [decide_eq_false h4, cond_false, decide_eq_true (show NearP p by unfold NearP; omega), Bool.true_and]
theorem rnear_eq (l : List V2) (hl : l.length ≤ 900) : F80_0 l = some (l.all fun p => decide (NearP p)) := rnear_loop l hl l.length 0 1000 (by omega) (by omega)

/-- The number whose sign is the side. -/
def areaS (a b p : V2) : Int := (b.1 - a.1) * (p.2 - a.2) - (b.2 - a.2) * (p.1 - a.1)
theorem near_prod {x y : Int} (hx : -562949953421312 ≤ x ∧ x ≤ 562949953421312) (hy : -562949953421312 ≤ y ∧ y ≤ 562949953421312) : -316912650057057350374175801344 ≤ x * y ∧ x * y ≤ 316912650057057350374175801344 := by
  have h := Int.natAbs_mul x y
  have h1 : x.natAbs ≤ 562949953421312 := by omega
  have h2 : y.natAbs ≤ 562949953421312 := by omega
  have h3 := Nat.mul_le_mul h1 h2
  rw [← h] at h3
  generalize x * y = p at *
  omega
theorem areaS_in {a b p : V2} (ha : NearP a) (hb : NearP b) (hp : NearP p) : -633825300114114700748351602688 ≤ areaS a b p ∧ areaS a b p ≤ 633825300114114700748351602688 := by
  unfold NearP at *
  have h1 := near_prod (x := b.1 - a.1) (y := p.2 - a.2) ⟨by omega, by omega⟩ ⟨by omega, by omega⟩
  have h2 := near_prod (x := b.2 - a.2) (y := p.1 - a.1) ⟨by omega, by omega⟩ ⟨by omega, by omega⟩
  unfold areaS
  omega
def sideS (a b p : V2) : Int := if NearP a ∧ NearP b ∧ NearP p then sign3 (areaS a b p) else 0
def AllNear (a b p q : V2) : Prop := NearP a ∧ NearP b ∧ NearP p ∧ NearP q
instance (a b p q : V2) : Decidable (AllNear a b p q) := by unfold AllNear; infer_instance
/-- Is a gate crossed ahead, and where? -/
def Ahead (a b p q : V2) : Prop := AllNear a b p q ∧ areaS a b p ≤ 0 ∧ 0 < areaS a b q ∧ 0 ≤ areaS p q a ∧ areaS p q b < 0
instance (a b p q : V2) : Decidable (Ahead a b p q) := by unfold Ahead; infer_instance
def crossS (a b p q : V2) : Int × Bool := if Ahead a b p q then (partS (-areaS a b p) (areaS a b q - areaS a b p), true) else (0, false)
theorem sign3_gt (n : Int) : decide (sign3 n > 0) = decide (n > 0) := by unfold sign3; split <;> (try split) <;> simp <;> omega
theorem sign3_le (n : Int) : decide (sign3 n ≤ 0) = decide (n ≤ 0) := by unfold sign3; split <;> (try split) <;> simp <;> omega
theorem sign3_lt (n : Int) : decide (sign3 n < 0) = decide (n < 0) := by unfold sign3; split <;> (try split) <;> simp <;> omega
theorem sign3_ge (n : Int) : decide (sign3 n ≥ 0) = decide (n ≥ 0) := by unfold sign3; split <;> (try split) <;> simp <;> omega
theorem and4 {a b p q : V2} : (decide (NearP a) && (decide (NearP b) && (decide (NearP p) && decide (NearP q)))) = decide (AllNear a b p q) := by
  unfold AllNear
  by_cases h1 : NearP a <;> by_cases h2 : NearP b <;> by_cases h3 : NearP p <;> by_cases h4 : NearP q <;> simp_all
theorem cross_part (a b p q : V2) : 0 ≤ (crossS a b p q).1 ∧ (crossS a b p q).1 ≤ 4294967295 := by
  unfold crossS
  split
  · exact partS_in _ _
  · decide
end Go.Proofs.Ytfhhpfhmplgndaa.Ev
