/- What the functions of a race's plan compute: Right, Stint, Time, the program's and the document's, in plain terms. -/
import Derived.Test.YthlnocpbdhcnlaaXFns
import Derived.IntWalk
set_option linter.unusedVariables false
set_option linter.unusedSimpArgs false
namespace Go.Proofs.Ythlnocpbdhcnlaa.Ev
open Go

abbrev Race : Type := Int × Int × List Int × Int × Int × Int
abbrev W (n : Int) : Int := IntKind.wrap .i64 n
theorem W_l (a b : Int) : W (W a + b) = W (a + b) := by simp only [W, IntKind.wrap_i64]; omega
theorem W_r (a b : Int) : W (a + W b) = W (a + b) := by simp only [W, IntKind.wrap_i64]; omega
theorem W_in (n : Int) (h1 : -9223372036854775808 ≤ n) (h2 : n ≤ 9223372036854775807) : W n = n := by simp only [W, IntKind.wrap_i64]; omega
theorem rdx_nat {α : Type} (xs : List α) (i : Nat) : rdx xs (i : Int) = xs[i]? := by simp [rdx]
theorem idx_nat (i n : Nat) (h : i < n) : idx (i : Int) n = some i := by simp [idx, h]

/-! ### Right -/
def oddB (t : Int) : Bool := decide (t < 0) || decide (t > 281474976710656)
theorem F34_eq (t : Int) : F34_0 t = some (oddB t) := by
  unfold F34_0 oddB
  by_cases h : t < 0 <;> simp [h]
theorem F36_eq (t : Int) : F36_0 t = some (!oddB t) := by
  unfold F36_0 oddB
  by_cases h : t < 0
  · have : ¬ t ≥ 0 := by omega
    simp [h, this]
  · have : t ≥ 0 := by omega
    by_cases h2 : t > 281474976710656
    · have : ¬ t ≤ 281474976710656 := by omega
      simp [h, h2, this, *]
    · have : t ≤ 281474976710656 := by omega
      simp [h, h2, this, *]
theorem K45_eq (xs : List Int) (hl : xs.length ≤ 200) : ∀ (d i n : Nat), xs.length - i = d → i ≤ xs.length → d < n → ∃ j, K45_0 n (xs, ((xs.length : Int), (i : Int))) = some j ∧ decide (j ≥ 0) = (xs.drop i).any oddB := by
  intro d
  induction d with
  | zero =>
    intro i n h1 h2 h3
    obtain ⟨m, rfl⟩ : ∃ m, n = m + 1 := ⟨n - 1, by omega⟩
    have e : i = xs.length := by omega
    subst e
    exact ⟨-1, by simp [K45_0, B45_0_2], by simp⟩
  | succ d ih =>
    intro i n h1 h2 h3
    obtain ⟨m, rfl⟩ : ∃ m, n = m + 1 := ⟨n - 1, by omega⟩
    have hi : i < xs.length := by omega
    have hlt : decide ((i : Int) < (xs.length : Int)) = true := by simp; omega
    have hw : IntKind.wrap .i64 ((i : Int) + 1) = ((i + 1 : Nat) : Int) := by have := W_in ((i : Int) + 1) (by omega) (by omega); simpa using this
    have hd : xs.drop i = xs[i] :: xs.drop (i + 1) := List.drop_eq_getElem_cons hi
    obtain ⟨j, hj1, hj2⟩ := ih (i + 1) m (by omega) (by omega) (by omega)
    cases hb : oddB xs[i] with
    | true => exact ⟨(i : Int), by simp only [K45_0, B45_0_2, hlt, rdx_nat, List.getElem?_eq_getElem hi, Option.bind_some, F34_eq, hb], by rw [hd, List.any_cons, hb, Bool.true_or]; simp⟩
    | false => exact ⟨j, by simp only [K45_0, B45_0_2, hlt, rdx_nat, List.getElem?_eq_getElem hi, Option.bind_some, F34_eq, hb, hw]; exact hj1, by rw [hd, List.any_cons, hb, Bool.false_or]; exact hj2⟩
theorem F35_eq (xs : List Int) (hl : xs.length ≤ 200) : F35_0 xs = some (xs.any oddB) := by
  obtain ⟨j, h1, h2⟩ := K45_eq xs hl xs.length 0 1000 (by omega) (by omega) (by omega)
  have h1' : F45_0 xs = some j := h1
  simp only [F35_0, h1', Option.bind_some, h2, List.drop_zero]

/-- A race that may be. -/
def okR (r : Race) : Bool := decide (1 ≤ r.1 ∧ r.1 ≤ 100 ∧ 1 ≤ r.2.2.2.2.2 ∧ r.2.2.2.2.2 ≤ 100 ∧ r.2.2.1.length ≤ 100) && (!oddB r.2.1 && (!oddB r.2.2.2.1 && (!oddB r.2.2.2.2.1 && !(r.2.2.1.any oddB))))
theorem F20_eq (r : Race) (hl : r.2.2.1.length ≤ 200) : F20_0 r = some (if okR r then 0 else 40) := by
  obtain ⟨laps, base, old, heavy, stop, most⟩ := r
  simp only at hl
  simp only [F20_0, okR, F34_eq, F35_eq old hl, Option.bind_some]
  by_cases h1 : (if most < laps then most else laps) < 1
  · have : ¬ (1 ≤ laps ∧ laps ≤ 100 ∧ 1 ≤ most ∧ most ≤ 100 ∧ old.length ≤ 100) := by split at h1 <;> omega
    simp [h1, this]
  · by_cases h2 : (if (old.length : Int) > (if most > laps then most else laps) then (old.length : Int) else (if most > laps then most else laps)) > 100
    · have : ¬ (1 ≤ laps ∧ laps ≤ 100 ∧ 1 ≤ most ∧ most ≤ 100 ∧ old.length ≤ 100) := by split at h2 <;> split at h2 <;> omega
      simp [h1, h2, this]
    · have : 1 ≤ laps ∧ laps ≤ 100 ∧ 1 ≤ most ∧ most ≤ 100 ∧ old.length ≤ 100 := by split at h1 <;> split at h2 <;> split at h2 <;> omega
      simp only [h1, h2, this, decide_false, decide_true, and_self, Bool.true_and]
      cases oddB base <;> cases oddB heavy <;> cases oddB stop <;> cases old.any oddB <;> rfl
theorem K21_eq (r : Race) (hl : r.2.2.1.length ≤ 200) : ∀ (d i n : Nat) (g : Bool), r.2.2.1.length - i = d → i ≤ r.2.2.1.length → d < n → K21_0 n ((g, (i : Int)), r) = some (if g && !((r.2.2.1.drop i).any oddB) then 0 else 40) := by
  obtain ⟨laps, base, old, heavy, stop, most⟩ := r
  simp only at hl ⊢
  intro d
  induction d with
  | zero =>
    intro i n g h1 h2 h3
    obtain ⟨m, rfl⟩ : ∃ m, n = m + 1 := ⟨n - 1, by omega⟩
    have e : i = old.length := by omega
    subst e
    cases g <;> simp [K21_0, B21_0_3]
  | succ d ih =>
    intro i n g h1 h2 h3
    obtain ⟨m, rfl⟩ : ∃ m, n = m + 1 := ⟨n - 1, by omega⟩
    have hi : i < old.length := by omega
    have hlt : decide ((i : Int) < (old.length : Int)) = true := by simp; omega
    have hw : IntKind.wrap .i64 ((i : Int) + 1) = ((i + 1 : Nat) : Int) := by have := W_in ((i : Int) + 1) (by omega) (by omega); simpa using this
    have hd : old.drop i = old[i] :: old.drop (i + 1) := List.drop_eq_getElem_cons hi
    cases g with
    | false => simp only [K21_0, B21_0_3, hlt]; rfl
    | true =>
      have := ih (i + 1) m (!oddB old[i]) (by omega) (by omega) (by omega)
      simp only [K21_0, B21_0_3, hlt, rdx_nat, List.getElem?_eq_getElem hi, Option.bind_some, F36_eq, hw]
      rw [this, hd, List.any_cons]
      cases oddB old[i] <;> simp
theorem F21_eq (r : Race) (hl : r.2.2.1.length ≤ 200) : F21_0 r = some (if okR r then 0 else 40) := by
  have key : ∀ g : Bool, K21_0 1000 ((g, (0 : Int)), (r.1, (r.2.1, (r.2.2.1, (r.2.2.2.1, (r.2.2.2.2.1, r.2.2.2.2.2)))))) = some (if g && !(r.2.2.1.any oddB) then 0 else 40) := by
    intro g
    have := K21_eq r hl r.2.2.1.length 0 1000 g (by omega) (by omega) (by omega)
    simpa using this
  obtain ⟨laps, base, old, heavy, stop, most⟩ := r
  simp only at hl key
  show E21_0 (K21_0 1000) _ = _
  simp only [E21_0, F36_eq, Option.bind_some, key, okR]
  by_cases h1 : laps ≥ 1
  · by_cases h2 : laps ≤ 100
    · by_cases h3 : most ≥ 1
      · by_cases h4 : most ≤ 100
        · by_cases h5 : (old.length : Int) ≤ 100
          · have : 1 ≤ laps ∧ laps ≤ 100 ∧ 1 ≤ most ∧ most ≤ 100 ∧ old.length ≤ 100 := by omega
            simp only [h1, h2, h3, h4, h5, this, decide_true, and_self, Bool.true_and]
            cases oddB base <;> cases oddB heavy <;> cases oddB stop <;> cases old.any oddB <;> rfl
          · have : ¬ (1 ≤ laps ∧ laps ≤ 100 ∧ 1 ≤ most ∧ most ≤ 100 ∧ old.length ≤ 100) := by omega
            have h6 : ¬ old.length ≤ 100 := by omega
            simp [h1, h2, h3, h4, h5, h6, this]
        · have : ¬ (1 ≤ laps ∧ laps ≤ 100 ∧ 1 ≤ most ∧ most ≤ 100 ∧ old.length ≤ 100) := by omega
          simp [h1, h2, h3, h4, this]
      · have : ¬ (1 ≤ laps ∧ laps ≤ 100 ∧ 1 ≤ most ∧ most ≤ 100 ∧ old.length ≤ 100) := by omega
        simp [h1, h2, h3, this]
    · have : ¬ (1 ≤ laps ∧ laps ≤ 100 ∧ 1 ≤ most ∧ most ≤ 100 ∧ old.length ≤ 100) := by omega
      simp [h1, h2, this]
  · have : ¬ (1 ≤ laps ∧ laps ≤ 100 ∧ 1 ≤ most ∧ most ≤ 100 ∧ old.length ≤ 100) := by omega
    simp [h1, this]
theorem okR_laps {r : Race} (h : okR r = true) : 1 ≤ r.1 ∧ r.1 ≤ 100 ∧ 1 ≤ r.2.2.2.2.2 ∧ r.2.2.2.2.2 ≤ 100 ∧ r.2.2.1.length ≤ 100 := by
  unfold okR at h
  simp only [Bool.and_eq_true, decide_eq_true_eq] at h
  exact h.1

/-! ### Stint -/
def oldF (xs : List Int) (a : Nat) : Int := xs.getD (min a (xs.length - 1)) 0
theorem F37_eq (r : Race) (hl : r.2.2.1.length ≤ 200) (a : Nat) (ha : a ≤ 200) : F37_0 (r, (a : Int)) = some (oldF r.2.2.1 a) := by
  obtain ⟨laps, base, old, heavy, stop, most⟩ := r
  simp only at hl ⊢
  cases old with
  | nil => rfl
  | cons x l =>
    have h0 : (((x :: l).length : Int) == 0) = false := by simp; omega
    have hw : IntKind.wrap .i64 (((x :: l).length : Int) - 1) = (l.length : Int) := by
      have := W_in (((x :: l).length : Int) - 1) (by omega) (by omega)
      rw [show IntKind.wrap .i64 (((x :: l).length : Int) - 1) = W (((x :: l).length : Int) - 1) from rfl, this]
      simp
    have hm : (if (l.length : Int) < (a : Int) then (l.length : Int) else (a : Int)) = ((min a l.length : Nat) : Int) := by split <;> omega
    have hi : min a l.length < (x :: l).length := by simp; omega
    simp only [F37_0, h0, hw, hm, rdx_nat, List.getElem?_eq_getElem hi, Option.bind_some, oldF]
    have e : (x :: l).length - 1 = l.length := by simp
    rw [e]
    simp [List.getD, List.getElem?_eq_getElem hi]
theorem F38_eq (r : Race) (hl : r.2.2.1.length ≤ 200) (a : Nat) (ha : a ≤ 200) : F38_0 (r, (a : Int)) = some (oldF r.2.2.1 a) := by
  obtain ⟨laps, base, old, heavy, stop, most⟩ := r
  simp only at hl ⊢
  cases old with
  | nil => rfl
  | cons x l =>
    have h0 : (((x :: l).length : Int) == 0) = false := by simp; omega
    have hw : IntKind.wrap .i64 (((x :: l).length : Int) - 1) = (l.length : Int) := by
      have := W_in (((x :: l).length : Int) - 1) (by omega) (by omega)
      rw [show IntKind.wrap .i64 (((x :: l).length : Int) - 1) = W (((x :: l).length : Int) - 1) from rfl, this]
      simp
    have e : (x :: l).length - 1 = l.length := by simp
    by_cases h : (a : Int) ≥ ((x :: l).length : Int)
    · have hi : l.length < (x :: l).length := by simp
      have hm : min a l.length = l.length := by simp at h; omega
      simp only [F38_0, h0, h, decide_true, hw, rdx_nat, List.getElem?_eq_getElem hi, Option.bind_some, oldF, e, hm]
      simp [List.getD, List.getElem?_eq_getElem hi]
    · have hi : a < (x :: l).length := by omega
      have hm : min a l.length = a := by simp at hi; omega
      simp only [F38_0, h0, h, decide_false, rdx_nat, List.getElem?_eq_getElem hi, Option.bind_some, oldF, e, hm]
      simp [List.getD, List.getElem?_eq_getElem hi]

/-- How much longer d laps are, from an age on. -/
def olds (xs : List Int) : Nat → Nat → Int
  | 0, _ => 0
  | d + 1, j => oldF xs j + olds xs d (j + 1)
/-- 1 + .. + d. -/
def tri : Nat → Int
  | 0 => 0
  | d + 1 => tri d + ((d : Int) + 1)
theorem tri_two : ∀ d : Nat, 2 * tri d = (d : Int) * ((d : Int) + 1) := by
  intro d
  induction d with
  | zero => rfl
  | succ d ih =>
    simp only [tri, Int.mul_add, ih]
    have e : ((d + 1 : Nat) : Int) = (d : Int) + 1 := by omega
    rw [e]
    simp only [Int.add_mul, Int.mul_add]
    omega
theorem K23_eq (r : Race) (hl : r.2.2.1.length ≤ 200) : ∀ (d j m n : Nat) (x : Int), m - j = d → j ≤ m → m ≤ 100 → d < n → K23_0 n ((W x, ((m : Int), (j : Int))), r) = some (W (x + olds r.2.2.1 d j)) := by
  obtain ⟨laps, base, old, heavy, stop, most⟩ := r
  simp only at hl ⊢
  intro d
  induction d with
  | zero =>
    intro j m n x h1 h2 h3 h4
    obtain ⟨k, rfl⟩ : ∃ k, n = k + 1 := ⟨n - 1, by omega⟩
    have e : j = m := by omega
    subst e
    have hlt : decide ((j : Int) < (j : Int)) = false := by simp
    simp only [K23_0, B23_0_6, hlt, olds, Int.add_zero]
  | succ d ih =>
    intro j m n x h1 h2 h3 h4
    obtain ⟨k, rfl⟩ : ∃ k, n = k + 1 := ⟨n - 1, by omega⟩
    have hlt : decide ((j : Int) < (m : Int)) = true := by simp; omega
    have hw : IntKind.wrap .i64 ((j : Int) + 1) = ((j + 1 : Nat) : Int) := by have := W_in ((j : Int) + 1) (by omega) (by omega); simpa using this
    have h37 := F37_eq (laps, base, old, heavy, stop, most) hl j (by omega)
    have hs : IntKind.wrap .i64 (W x + oldF old j) = W (x + oldF old j) := W_l x (oldF old j)
    simp only [K23_0, B23_0_6, hlt, h37, Option.bind_some, hw, hs]
    rw [ih (j + 1) m k (x + oldF old j) (by omega) (by omega) h3 (by omega)]
    simp only [olds, Int.add_assoc]
/-- A stint's time. -/
def stintF (r : Race) (d : Nat) : Int := (d : Int) * r.2.1 + r.2.2.2.1 * tri d + olds r.2.2.1 d 0
theorem F23_eq (r : Race) (hl : r.2.2.1.length ≤ 200) (h100 : r.1 ≤ 100) (n : Int) : F23_0 (r, n) = some (if n < 1 ∨ n > r.1 then 0 else W (stintF r n.toNat)) := by
  obtain ⟨laps, base, old, heavy, stop, most⟩ := r
  simp only at hl h100 ⊢
  show E23_0 (K23_0 1000) _ = _
  by_cases h1 : n < 1
  · simp [E23_0, h1]
  · by_cases h2 : n > laps
    · simp [E23_0, h1, h2]
    · obtain ⟨d, rfl⟩ := Int.eq_ofNat_of_zero_le (show 0 ≤ n by omega)
      have hk := K23_eq (laps, base, old, heavy, stop, most) hl d 0 d 1000 ((d : Int) * base + heavy * tri d) (by omega) (by omega) (by omega) (by omega)
      have e1 : IntKind.wrap .i64 ((d : Int) + 1) = (d : Int) + 1 := W_in _ (by omega) (by omega)
      have hsm : (d : Int) * ((d : Int) + 1) = 2 * tri d := (tri_two d).symm
      have hb : 0 ≤ (d : Int) * ((d : Int) + 1) ∧ (d : Int) * ((d : Int) + 1) ≤ 100 * 101 := ⟨Int.mul_nonneg (by omega) (by omega), Int.mul_le_mul (by omega) (by omega) (by omega) (by omega)⟩
      have e2 : IntKind.wrap .i64 ((d : Int) * ((d : Int) + 1)) = (d : Int) * ((d : Int) + 1) := W_in _ (by omega) (by omega)
      have e3 : Int.tdiv ((d : Int) * ((d : Int) + 1)) 2 = tri d := by rw [hsm]; exact Int.mul_tdiv_cancel_left _ (by decide)
      have e4 : IntKind.wrap .i64 (tri d) = tri d := W_in _ (by omega) (by omega)
      have e5 : IntKind.wrap .i64 (IntKind.wrap .i64 ((d : Int) * base) + IntKind.wrap .i64 (heavy * tri d)) = W ((d : Int) * base + heavy * tri d) := (W_l _ _).trans (W_r _ _)
      simp only [E23_0, h1, h2, decide_false, e1, e2, e3, e4, e5, or_self, if_false, stintF, Int.toNat_natCast]
      exact hk
theorem K24_eq (r : Race) (hl : r.2.2.1.length ≤ 200) : ∀ (d j m n : Nat) (x : Int), m - j = d → j ≤ m → m ≤ 100 → d < n → K24_0 n (((m : Int), (W x, (j : Int))), r) = some (W (x + ((d : Int) * r.2.1 + r.2.2.2.1 * tri d + olds r.2.2.1 d j))) := by
  obtain ⟨laps, base, old, heavy, stop, most⟩ := r
  simp only at hl ⊢
  intro d
  induction d with
  | zero =>
    intro j m n x h1 h2 h3 h4
    obtain ⟨k, rfl⟩ : ∃ k, n = k + 1 := ⟨n - 1, by omega⟩
    have e : j = m := by omega
    subst e
    have hlt : decide ((j : Int) < (j : Int)) = false := by simp
    simp only [K24_0, B24_0_5, hlt, olds, tri]
    congr 2
    simp
  | succ d ih =>
    intro j m n x h1 h2 h3 h4
    obtain ⟨k, rfl⟩ : ∃ k, n = k + 1 := ⟨n - 1, by omega⟩
    have hlt : decide ((j : Int) < (m : Int)) = true := by simp; omega
    have hw : IntKind.wrap .i64 ((j : Int) + 1) = ((j + 1 : Nat) : Int) := by have := W_in ((j : Int) + 1) (by omega) (by omega); simpa using this
    have h38 := F38_eq (laps, base, old, heavy, stop, most) hl j (by omega)
    have e1 : IntKind.wrap .i64 ((m : Int) - (j : Int)) = (d : Int) + 1 := by have := W_in ((m : Int) - (j : Int)) (by omega) (by omega); rw [show IntKind.wrap .i64 ((m : Int) - (j : Int)) = W ((m : Int) - (j : Int)) from rfl, this]; omega
    have hs : IntKind.wrap .i64 (W x + IntKind.wrap .i64 (IntKind.wrap .i64 (base + oldF old j) + IntKind.wrap .i64 (heavy * ((d : Int) + 1)))) = W (x + (base + oldF old j + heavy * ((d : Int) + 1))) := by
      have h1 : IntKind.wrap .i64 (IntKind.wrap .i64 (base + oldF old j) + IntKind.wrap .i64 (heavy * ((d : Int) + 1))) = W (base + oldF old j + heavy * ((d : Int) + 1)) := (W_l _ _).trans (W_r _ _)
      rw [h1]
      exact (W_l _ _).trans (W_r _ _)
    simp only [K24_0, B24_0_5, hlt, h38, Option.bind_some, hw, e1, hs]
    rw [ih (j + 1) m k _ (by omega) (by omega) h3 (by omega)]
    congr 2
    have e2 : ((d + 1 : Nat) : Int) = (d : Int) + 1 := by omega
    simp only [olds, tri, e2, Int.add_mul, Int.mul_add, Int.one_mul]
    omega
theorem F24_eq (r : Race) (hl : r.2.2.1.length ≤ 200) (h100 : r.1 ≤ 100) (n : Int) : F24_0 (r, n) = some (if n < 1 ∨ n > r.1 then 0 else W (stintF r n.toNat)) := by
  obtain ⟨laps, base, old, heavy, stop, most⟩ := r
  simp only at hl h100 ⊢
  show E24_0 (K24_0 1000) _ = _
  by_cases h2 : n > laps
  · simp [E24_0, h2]
  · by_cases h1 : n < 1
    · have hlt : decide ((0 : Int) < n) = false := by simp; omega
      simp only [E24_0, h2, h1, decide_false, true_or, if_true]
      show B24_0_5 (K24_0 999) _ = _
      simp only [B24_0_5, hlt]
    · obtain ⟨d, rfl⟩ := Int.eq_ofNat_of_zero_le (show 0 ≤ n by omega)
      have hk := K24_eq (laps, base, old, heavy, stop, most) hl d 0 d 1000 0 (by omega) (by omega) (by omega) (by omega)
      have w0 : W 0 = 0 := by decide
      simp only [w0, Int.zero_add] at hk
      simp only [E24_0, h1, h2, decide_false, or_self, if_false, stintF, Int.toNat_natCast]
      exact hk

/-! ### Time -/
def sg (r : Race) (n : Int) : Int := if n < 1 ∨ n > r.1 then 0 else W (stintF r n.toNat)
theorem K17_dead (r : Race) (xs : List Int) (hx : xs.length ≤ 300) (s : Int) (i n : Nat) (hi : i < xs.length) : K17_0 (n + 1) ((s, (r.1, ((xs.length : Int), (i : Int)))), (xs, r)) = some (0, false) := by
  obtain ⟨laps, base, old, heavy, stop, most⟩ := r
  have hlt : decide ((i : Int) < (xs.length : Int)) = true := by simp; omega
  simp only [K17_0, B17_0_5, hlt, idx_nat i _ hi, List.getElem?_eq_getElem hi, Option.bind_some]
  by_cases h : xs[i] ≤ laps
  · simp only [h, decide_true]
  · have h2 : xs[i] > laps := by omega
    simp only [h, h2, decide_false, decide_true]
theorem time_loop (r : Race) (hl : r.2.2.1.length ≤ 200) (h0 : 1 ≤ r.1) (h100 : r.1 ≤ 100) (p : List Int) (hp : p.length ≤ 200) : ∀ (d i n m : Nat) (from_ x y : Int), p.length - i = d → i ≤ p.length → 0 ≤ from_ → from_ ≤ r.1 → d + 2 < n → d + 2 < m → x = y + (d : Int) * r.2.2.2.2.1 →
    ∃ res, K17_0 n ((W x, (from_, (((p ++ [r.1]).length : Int), (i : Int)))), (p ++ [r.1], r)) = some res ∧ K18_0 m ((p, (W y, (from_, (i : Int)))), r) = some res := by
  have f23 := F23_eq r hl h100
  have f24 := F24_eq r hl h100
  obtain ⟨laps, base, old, heavy, stop, most⟩ := r
  simp only at hl h0 h100 f23 f24 ⊢
  intro d
  induction d with
  | zero =>
    intro i n m from_ x y h1 h2 h3 h4 h5 h6 hxy
    obtain ⟨n, rfl⟩ : ∃ k, n = k + 2 := ⟨n - 2, by omega⟩
    obtain ⟨m, rfl⟩ : ∃ k, m = k + 2 := ⟨m - 2, by omega⟩
    have e : i = p.length := by omega
    subst e
    have hi : p.length < (p ++ [laps]).length := by simp
    have hlt : decide ((p.length : Int) < ((p ++ [laps]).length : Int)) = true := by simp; omega
    have hge : (p ++ [laps])[p.length] = laps := by simp
    have hle : decide ((p.length : Int) ≤ (p.length : Int)) = true := by simp
    have hnl : decide ((p.length : Int) < (p.length : Int)) = false := by simp
    have hxy' : x = y := by simpa using hxy
    subst hxy'
    have h17 : K17_0 (n + 2) ((W x, (from_, (((p ++ [laps]).length : Int), (p.length : Int)))), (p ++ [laps], (laps, base, old, heavy, stop, most))) = B17_0_5 (K17_0 (n + 1)) ((W x, (from_, (((p ++ [laps]).length : Int), (p.length : Int)))), (p ++ [laps], (laps, base, old, heavy, stop, most))) := rfl
    have h18 : K18_0 (m + 2) ((p, (W x, (from_, (p.length : Int)))), (laps, base, old, heavy, stop, most)) = B18_0_6 (K18_0 (m + 1)) ((p, (W x, (from_, (p.length : Int)))), (laps, base, old, heavy, stop, most)) := rfl
    rw [h17, h18]
    simp only [B17_0_5, B18_0_6, hlt, hle, hnl, idx_nat _ _ hi, List.getElem?_eq_getElem hi, Option.bind_some, hge]
    by_cases c1 : laps ≤ from_
    · exact ⟨(0, false), by simp only [c1, decide_true], by simp only [c1, decide_true]⟩
    · have c2 : ¬ laps > laps := by omega
      have ew : IntKind.wrap .i64 (laps - from_) = laps - from_ := W_in _ (by omega) (by omega)
      simp only [c1, c2, decide_false, ew]
      by_cases c3 : laps - from_ > most
      · exact ⟨(0, false), by simp only [c3, decide_true], by simp only [c3, decide_true]⟩
      · have hw : IntKind.wrap .i64 ((p.length : Int) + 1) = ((p.length + 1 : Nat) : Int) := by have := W_in ((p.length : Int) + 1) (by omega) (by omega); simpa using this
        have hend : decide (((p.length + 1 : Nat) : Int) < ((p ++ [laps]).length : Int)) = false := by simp
        have hend2 : decide (((p.length + 1 : Nat) : Int) ≤ (p.length : Int)) = false := by simp; omega
        simp only [c3, decide_false, f23, f24, Option.bind_some, hw]
        refine ⟨(IntKind.wrap .i64 (W x + if laps - from_ < 1 ∨ laps - from_ > laps then 0 else W (stintF (laps, base, old, heavy, stop, most) (laps - from_).toNat)), true), ?_, ?_⟩
        · show B17_0_5 (K17_0 n) _ = _
          simp only [B17_0_5, hend]
        · show B18_0_6 (K18_0 m) _ = _
          simp only [B18_0_6, hend2]
  | succ d ih =>
    intro i n m from_ x y h1 h2 h3 h4 h5 h6 hxy
    obtain ⟨n, rfl⟩ : ∃ k, n = k + 2 := ⟨n - 2, by omega⟩
    obtain ⟨m, rfl⟩ : ∃ k, m = k + 2 := ⟨m - 2, by omega⟩
    have hip : i < p.length := by omega
    have hi : i < (p ++ [laps]).length := by simp; omega
    have hlt : decide ((i : Int) < ((p ++ [laps]).length : Int)) = true := by simp; omega
    have hge : (p ++ [laps])[i] = p[i] := List.getElem_append_left hip
    have hle : decide ((i : Int) ≤ (p.length : Int)) = true := by simp; omega
    have hnl : decide ((i : Int) < (p.length : Int)) = true := by simp; omega
    have hw : IntKind.wrap .i64 ((i : Int) + 1) = ((i + 1 : Nat) : Int) := by have := W_in ((i : Int) + 1) (by omega) (by omega); simpa using this
    have h17 : K17_0 (n + 2) ((W x, (from_, (((p ++ [laps]).length : Int), (i : Int)))), (p ++ [laps], (laps, base, old, heavy, stop, most))) = B17_0_5 (K17_0 (n + 1)) ((W x, (from_, (((p ++ [laps]).length : Int), (i : Int)))), (p ++ [laps], (laps, base, old, heavy, stop, most))) := rfl
    have h18 : K18_0 (m + 2) ((p, (W y, (from_, (i : Int)))), (laps, base, old, heavy, stop, most)) = B18_0_6 (K18_0 (m + 1)) ((p, (W y, (from_, (i : Int)))), (laps, base, old, heavy, stop, most)) := rfl
    rw [h17, h18]
    simp only [B17_0_5, B18_0_6, hlt, hle, hnl, idx_nat _ _ hi, rdx_nat, List.getElem?_eq_getElem hi, List.getElem?_eq_getElem hip, Option.bind_some, hge]
    generalize p[i] = t
    by_cases c1 : t ≤ from_
    · exact ⟨(0, false), by simp only [c1, decide_true], by simp only [c1, decide_true]⟩
    · by_cases c2 : t > laps
      · exact ⟨(0, false), by simp only [c1, c2, decide_true, decide_false], by simp only [c1, c2, decide_true, decide_false]⟩
      · have ew : IntKind.wrap .i64 (t - from_) = t - from_ := W_in _ (by omega) (by omega)
        simp only [c1, c2, decide_false, ew]
        by_cases c0 : t = laps
        · have cb : (t == laps) = true := by simp [c0]
          refine ⟨(0, false), ?_, by simp only [cb]⟩
          by_cases c3 : t - from_ > most
          · simp only [c3, decide_true]
          · simp only [c3, decide_false, f23, Option.bind_some, hw]
            subst c0
            exact K17_dead (t, base, old, heavy, stop, most) (p ++ [t]) (by simp; omega) _ (i + 1) n (by simp; omega)
        · have cb : (t == laps) = false := by simp [c0]
          simp only [cb]
          by_cases c3 : t - from_ > most
          · exact ⟨(0, false), by simp only [c3, decide_true], by simp only [c3, decide_true]⟩
          · simp only [c3, decide_false, f23, f24, Option.bind_some, hw]
            generalize (if t - from_ < 1 ∨ t - from_ > laps then 0 else W (stintF (laps, base, old, heavy, stop, most) (t - from_).toNat)) = s
            have e1 : IntKind.wrap .i64 (W x + s) = W (x + s) := W_l x s
            have e2 : IntKind.wrap .i64 (IntKind.wrap .i64 (W y + stop) + s) = W (y + stop + s) := by
              have : IntKind.wrap .i64 (W y + stop) = W (y + stop) := W_l y stop
              rw [this]; exact W_l _ _
            rw [e1, e2]
            exact ih (i + 1) (n + 1) (m + 1) t (x + s) (y + stop + s) (by omega) (by omega) (by omega) (by omega) (by omega) (by omega) (by
              rw [hxy]
              have e3 : ((d + 1 : Nat) : Int) = (d : Int) + 1 := by omega
              rw [e3, Int.add_mul, Int.one_mul]; omega)
theorem time_eq (r : Race) (hl : r.2.2.1.length ≤ 200) (p : List Int) (hp : p.length ≤ 200) : ∃ res, F17_0 (r, p) = some res ∧ F18_0 (r, p) = some res := by
  have f20 := F20_eq r hl
  have f21 := F21_eq r hl
  cases hok : okR r with
  | false =>
    obtain ⟨laps, base, old, heavy, stop, most⟩ := r
    refine ⟨(0, false), ?_, ?_⟩
    · show E17_0 (K17_0 1000) _ = _
      simp only [E17_0, f20, hok, Option.bind_some, Bool.false_eq_true, if_false]
      rfl
    · show E18_0 (K18_0 1000) _ = _
      simp only [E18_0, f21, hok, Option.bind_some, Bool.false_eq_true, if_false]
      rfl
  | true =>
    have hk := okR_laps hok
    obtain ⟨res, h1, h2⟩ := time_loop r hl hk.1 hk.2.1 p hp p.length 0 1000 1000 0 ((p.length : Int) * r.2.2.2.2.1) 0 (by omega) (by omega) (by omega) (by omega) (by omega) (by omega) (by omega)
    obtain ⟨laps, base, old, heavy, stop, most⟩ := r
    simp only at h1 h2 hl hk
    have w0 : W 0 = 0 := by decide
    rw [w0] at h2
    refine ⟨res, ?_, ?_⟩
    · show E17_0 (K17_0 1000) _ = _
      have hc : F33_0 p = some p := by
        have : decide ((([] : List Int).length + p.length) * 8 ≤ 140737488355328) = true := by simp; omega
        simp only [F33_0, F33_r, this, chk, Option.bind_some, List.nil_append]
      have hc2 : decide ((p.length + ([laps] : List Int).length) * 8 ≤ 140737488355328) = true := by simp; omega
      have hb : ((0 : Int) != 0) = false := rfl
      simp only [E17_0, f20, hok, Option.bind_some, if_true, hb, hc, hc2, chk]
      exact h1
    · show E18_0 (K18_0 1000) _ = _
      have hb : ((0 : Int) != 0) = false := rfl
      simp only [E18_0, f21, hok, Option.bind_some, if_true, hb]
      exact h2
end Go.Proofs.Ythlnocpbdhcnlaa.Ev
