/- What Best computes: the outer loop, the plan that is read off, and the whole. -/
import Derived.Test.YthlnocpbdhcnlaaMBest
set_option linter.unusedVariables false
set_option linter.unusedSimpArgs false
namespace Go.Proofs.Ythlnocpbdhcnlaa.Ev
open Go
def firstF (B : List Rest) (i : Nat) : Int := (B.getD i z3).2.2
def stopsF (B : List Rest) (L : Nat) : Nat → Nat → List Int
  | 0, _ => []
  | f + 1, a => if a < L then (if a > 0 then [(a : Int)] else []) ++ stopsF B L f (a + (firstF B (L - a)).toNat) else []
section
variable {laps base : Int} {old : List Int} {heavy stop most : Int}
theorem loop11 {st : Nat → Int} (hf : Fits st stop) (L M : Nat) (hL : laps = (L : Int)) (hM : most = (M : Int)) (h100 : L ≤ 100) (hM1 : 1 ≤ M) (hM100 : M ≤ 100) {res : (Int × Bool) × List Int}
    (hend : ∀ F, 300 ≤ F → (K25_0 F).2.2.2 ((0 : Int), (([] : List Int), (Bs st stop M L, (laps, base, old, heavy, stop, most)))) = some res) :
    ∀ (d k F : Nat), d = L - k → k ≤ L → 301 + d * 103 ≤ F → (K25_0 F).2.1 (((k + 1 : Nat) : Int), (Bs st stop M k ++ List.replicate d z3, ((List.range (L + 1)).map st, (laps, base, old, heavy, stop, most)))) = some res := by
  intro d
  induction d with
  | zero =>
    intro k F h1 h2 h3
    obtain rfl : k = L := by omega
    obtain ⟨F, rfl⟩ : ∃ f, F = f + 1 := ⟨F - 1, by omega⟩
    have hle : decide (((k + 1 : Nat) : Int) ≤ laps) = false := by simp only [decide_eq_false_iff_not]; omega
    show B25_0_11 (K25_0 F) _ = _
    simp only [B25_0_11, hle, List.replicate_zero, List.append_nil]
    exact hend F (by omega)
  | succ d ih =>
    intro k F h1 h2 h3
    have hk : k < L := by omega
    have hmn : 1 ≤ min (k + 1) M ∧ min (k + 1) M ≤ 100 := by omega
    obtain ⟨f, rfl⟩ : ∃ f, F = (f + min (k + 1) M + 1) + 1 := ⟨F - min (k + 1) M - 2, by omega⟩
    have hle : decide (((k + 1 : Nat) : Int) ≤ laps) = true := by simp only [decide_eq_true_eq]; omega
    show B25_0_11 (K25_0 (f + min (k + 1) M + 1)) _ = _
    simp only [B25_0_11, hle]
    have h14 := loop14 (base := base) (old := old) (heavy := heavy) hf L M hL hM h100 hM1 hM100 k hk (List.replicate d z3) (min (k + 1) M) 1 f (by omega) (by omega) (by omega)
    have hr0 : rowF st stop (Bs st stop M k) (k + 1) (1 - 1) = z3 := rfl
    rw [hr0] at h14
    rw [List.replicate_succ]
    refine h14.trans ?_
    have hb : Bs st stop M k ++ rowF st stop (Bs st stop M k) (k + 1) (min (k + 1) M) :: List.replicate d z3 = Bs st stop M (k + 1) ++ List.replicate d z3 := by simp [Bs]
    rw [hb]
    exact ih (k + 1) f (by omega) (by omega) (by omega)
theorem loop23 {st : Nat → Int} (hf : Fits st stop) (L M : Nat) (hL : laps = (L : Int)) (h100 : L ≤ 100) (hM1 : 1 ≤ M) :
    ∀ (f a : Nat) (p : List Int) (F : Nat), L - a < f → a ≤ L → p.length ≤ a → f < F →
      (K25_0 F).2.2.2 ((a : Int), (p, (Bs st stop M L, (laps, base, old, heavy, stop, most)))) = some ((((Bs st stop M L).getD L z3).1, true), p ++ stopsF (Bs st stop M L) L f a) := by
  have hbl := Bs_length st stop M L
  have hbs := Bs_ok hf hM1 L h100
  intro f
  induction f with
  | zero => intro a p F h; omega
  | succ f ih =>
    intro a p F h1 h2 h3 h4
    obtain ⟨F, rfl⟩ : ∃ g, F = g + 1 := ⟨F - 1, by omega⟩
    show B25_0_23 (K25_0 F) _ = _
    by_cases hlt : a < L
    · have hd : decide ((a : Int) < laps) = true := by simp only [decide_eq_true_eq]; omega
      have hw : IntKind.wrap .i64 (laps - (a : Int)) = ((L - a : Nat) : Int) := by
        have h : IntKind.wrap .i64 (laps - (a : Int)) = laps - (a : Int) := W_in _ (by omega) (by omega)
        rw [h]; omega
      have hi : L - a < (Bs st stop M L).length := by omega
      have hr := hbs (L - a) (by omega)
      have hx : (Bs st stop M L)[L - a] = (Bs st stop M L).getD (L - a) z3 := by simp [List.getD_eq_getElem?_getD, List.getElem?_eq_getElem hi]
      have f1 := hr.flo (by omega); have f2 := hr.fhi
      have hwa : IntKind.wrap .i64 ((a : Int) + ((Bs st stop M L).getD (L - a) z3).2.2) = ((a + (firstF (Bs st stop M L) (L - a)).toNat : Nat) : Int) := by
        have h : IntKind.wrap .i64 ((a : Int) + ((Bs st stop M L).getD (L - a) z3).2.2) = (a : Int) + ((Bs st stop M L).getD (L - a) z3).2.2 := W_in _ (by omega) (by omega)
        rw [h]; unfold firstF; omega
      have hff : 1 ≤ (firstF (Bs st stop M L) (L - a)).toNat ∧ (firstF (Bs st stop M L) (L - a)).toNat ≤ L - a := by unfold firstF; omega
      have hs : stopsF (Bs st stop M L) L (f + 1) a = (if a > 0 then [(a : Int)] else []) ++ stopsF (Bs st stop M L) L f (a + (firstF (Bs st stop M L) (L - a)).toNat) := by simp only [stopsF, hlt, if_true]
      by_cases h0 : a > 0
      · have hg : decide ((a : Int) > 0) = true := by simp only [decide_eq_true_eq]; omega
        have hc : decide ((p.length + ([(a : Int)] : List Int).length) * 8 ≤ 140737488355328) = true := by simp; omega
        simp only [B25_0_23, hd, hg, hc, chk, Option.bind_some, hw, idx_nat _ _ hi, List.getElem?_eq_getElem hi, hx, hwa]
        rw [hs, if_pos h0, ← List.append_assoc]
        exact ih _ _ F (by omega) (by omega) (by simp; omega) (by omega)
      · have hg : decide ((a : Int) > 0) = false := by simp only [decide_eq_false_iff_not]; omega
        simp only [B25_0_23, hd, hg, Option.bind_some, hw, idx_nat _ _ hi, List.getElem?_eq_getElem hi, hx, hwa]
        rw [hs, if_neg h0, List.nil_append]
        exact ih _ _ F (by omega) (by omega) (by omega) (by omega)
    · have hd : decide ((a : Int) < laps) = false := by simp only [decide_eq_false_iff_not]; omega
      have hi : L < (Bs st stop M L).length := by omega
      have hx : (Bs st stop M L)[L] = (Bs st stop M L).getD L z3 := by simp [List.getD_eq_getElem?_getD, List.getElem?_eq_getElem hi]
      have hli : idx laps (Bs st stop M L).length = some L := by rw [hL]; exact idx_nat _ _ hi
      simp only [B25_0_23, hd, hli, List.getElem?_eq_getElem hi, hx, Option.bind_some, stopsF, hlt, if_false, List.append_nil]
end

/-! ### A race that may be -/
theorem odd_in {t : Int} (h : oddB t = false) : 0 ≤ t ∧ t ≤ 281474976710656 := by
  unfold oddB at h
  simp only [Bool.or_eq_false_iff, decide_eq_false_iff_not] at h
  omega
structure RaceOk (r : Race) : Prop where
  laps : 1 ≤ r.1 ∧ r.1 ≤ 100
  most : 1 ≤ r.2.2.2.2.2 ∧ r.2.2.2.2.2 ≤ 100
  len : r.2.2.1.length ≤ 100
  base : 0 ≤ r.2.1 ∧ r.2.1 ≤ 281474976710656
  heavy : 0 ≤ r.2.2.2.1 ∧ r.2.2.2.1 ≤ 281474976710656
  stop : 0 ≤ r.2.2.2.2.1 ∧ r.2.2.2.2.1 ≤ 281474976710656
  old : ∀ x ∈ r.2.2.1, 0 ≤ x ∧ x ≤ 281474976710656
theorem okR_inv {r : Race} (h : okR r = true) : RaceOk r := by
  have h0 := okR_laps h
  unfold okR at h
  simp only [Bool.and_eq_true, Bool.not_eq_true'] at h
  refine ⟨⟨h0.1, h0.2.1⟩, ⟨h0.2.2.1, h0.2.2.2.1⟩, h0.2.2.2.2, odd_in h.2.1, odd_in h.2.2.1, odd_in h.2.2.2.1, fun x hx => ?_⟩
  have := h.2.2.2.2
  rw [List.any_eq_false] at this
  exact odd_in (by simpa using this x hx)
theorem oldF_in {r : Race} (h : RaceOk r) (a : Nat) : 0 ≤ oldF r.2.2.1 a ∧ oldF r.2.2.1 a ≤ 281474976710656 := by
  unfold oldF
  rw [List.getD_eq_getElem?_getD]
  cases hx : r.2.2.1[min a (r.2.2.1.length - 1)]? with
  | none => simp
  | some x => exact h.old x (List.mem_of_getElem? hx)
theorem olds_in {r : Race} (h : RaceOk r) : ∀ (d j : Nat), 0 ≤ olds r.2.2.1 d j ∧ olds r.2.2.1 d j ≤ (d : Int) * 281474976710656 := by
  intro d
  induction d with
  | zero => intro j; simp [olds]
  | succ d ih =>
    intro j
    have h1 := oldF_in h j
    have h2 := ih (j + 1)
    simp only [olds]
    omega
theorem tri_in (d : Nat) (h : d ≤ 100) : 0 ≤ tri d ∧ tri d ≤ (d : Int) * 51 := by
  have h1 := tri_two d
  have h2 : (d : Int) * ((d : Int) + 1) ≤ (d : Int) * 101 := Int.mul_le_mul_of_nonneg_left (by omega) (by omega)
  have h3 : 0 ≤ (d : Int) * ((d : Int) + 1) := Int.mul_nonneg (by omega) (by omega)
  omega
theorem fits_of {r : Race} (h : RaceOk r) : Fits (stintF r) r.2.2.2.2.1 := by
  have hb := h.base
  have hh := h.heavy
  refine ⟨fun n hn => ?_, fun n hn => ?_, h.stop.1, h.stop.2⟩
  · have h1 := olds_in h n 0
    have h2 := tri_in n hn
    have h3 : 0 ≤ (n : Int) * r.2.1 := Int.mul_nonneg (by omega) hb.1
    have h4 : 0 ≤ r.2.2.2.1 * tri n := Int.mul_nonneg hh.1 h2.1
    unfold stintF
    omega
  · have h1 := olds_in h n 0
    have h2 := tri_in n hn
    have h3 : (n : Int) * r.2.1 ≤ (n : Int) * 281474976710656 := Int.mul_le_mul_of_nonneg_left hb.2 (by omega)
    have h4 : r.2.2.2.1 * tri n ≤ 281474976710656 * ((n : Int) * 51) := Int.mul_le_mul hh.2 h2.2 h2.1 (by omega)
    unfold stintF
    omega
theorem stintF_small {r : Race} (h : RaceOk r) (n : Nat) (hn : n ≤ 100) : W (stintF r n) = stintF r n := by
  have hf := fits_of h
  have h1 := hf.lo n hn
  have h2 := hf.hi n hn
  exact W_in _ (by omega) (by omega)
theorem F23_small {r : Race} (h : RaceOk r) (n : Nat) (hn : (n : Int) ≤ r.1) : F23_0 (r, (n : Int)) = some (stintF r n) := by
  have hl := h.laps
  rw [F23_eq r (by have := h.len; omega) hl.2]
  by_cases h0 : n = 0
  · subst h0
    have : stintF r 0 = 0 := by simp [stintF, tri, olds]
    simp [this]
  · have hc : ¬ ((n : Int) < 1 ∨ (n : Int) > r.1) := by omega
    rw [if_neg hc, Int.toNat_natCast, stintF_small h n (by omega)]
def tableOf (r : Race) : List Rest := Bs (stintF r) r.2.2.2.2.1 r.2.2.2.2.2.toNat r.1.toNat
theorem F25_eq {r : Race} (hok : okR r = true) : F25_0 r = some ((((tableOf r).getD r.1.toNat z3).1, true), stopsF (tableOf r) r.1.toNat (r.1.toNat + 1) 0) := by
  have h := okR_inv hok
  have hf := fits_of h
  have f20 := F20_eq r (by have := h.len; omega)
  obtain ⟨laps, base, old, heavy, stop, most⟩ := r
  have hl := h.laps
  have hm := h.most
  simp only at hl hm hf
  obtain ⟨L, rfl⟩ := Int.eq_ofNat_of_zero_le (show 0 ≤ laps by omega)
  obtain ⟨M, rfl⟩ := Int.eq_ofNat_of_zero_le (show 0 ≤ most by omega)
  have hw : IntKind.wrap .i64 ((L : Int) + 1) = ((L + 1 : Nat) : Int) := by
    have h : IntKind.wrap .i64 ((L : Int) + 1) = (L : Int) + 1 := W_in _ (by omega) (by omega)
    rw [h]; rfl
  have hc : decide ((0 : Int) ≤ ((L + 1 : Nat) : Int) ∧ True ∧ ((L + 1 : Nat) : Int) * 8 ≤ 140737488355328 ∧ ((L + 1 : Nat) : Int) ≤ 9223372036854775807) = true := by
    rw [decide_eq_true_eq]
    exact ⟨by omega, trivial, by omega, by omega⟩
  have hne : ((0 : Int) != 0) = false := rfl
  show E25_0 (K25_0 20000) _ = _
  simp only [E25_0, f20, hok, if_true, Option.bind_some, hne, hw, hc, chk, Int.toNat_natCast, List.length_replicate]
  have h5 := loop5 (laps := (L : Int)) (base := base) (old := old) (heavy := heavy) (stop := stop) (most := (M : Int)) (stintF ((L : Int), base, old, heavy, stop, (M : Int))) L rfl (by omega) (fun i hi => F23_small h i (by show (i : Int) ≤ (L : Int); omega)) (L + 1) 0 (20000 - (L + 1) - 1) (by omega) (by omega)
  rw [show 20000 - (L + 1) - 1 + (L + 1) + 1 = 20000 by omega] at h5
  simp only [List.range_zero, List.map_nil, List.nil_append] at h5
  refine h5.trans ?_
  have hend := fun F (hF : 300 ≤ F) => loop23 (laps := (L : Int)) (base := base) (old := old) (heavy := heavy) (stop := stop) (most := (M : Int)) hf L M rfl (by omega) (by omega) (L + 1) 0 [] F (by omega) (by omega) (by simp) (by omega)
  have := loop11 (laps := (L : Int)) (base := base) (old := old) (heavy := heavy) (stop := stop) (most := (M : Int)) hf L M rfl rfl (by omega) (by omega) (by omega) hend L 0 (20000 - (L + 1) - 1) (by omega) (by omega) (by omega)
  simp only [tableOf, Int.toNat_natCast, List.nil_append] at this ⊢
  have hz : List.replicate (L + 1) z3 = Bs (stintF ((L : Int), base, old, heavy, stop, (M : Int))) stop M 0 ++ List.replicate L z3 := by simp [Bs, List.replicate_succ]
  rw [hz]
  exact this
end Go.Proofs.Ythlnocpbdhcnlaa.Ev
