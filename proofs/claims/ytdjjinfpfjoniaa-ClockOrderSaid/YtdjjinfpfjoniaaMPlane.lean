/- Sides, and where moves cross: what the program reckons, and what the document does. -/
import Derived.Test.YtdjjinfpfjoniaaMSign
import Derived.Test.YtdjjinfpfjoniaaMRef1M
set_option linter.unusedVariables false
set_option linter.unusedSimpArgs false
namespace Go.Proofs.Ytdjjinfpfjoniaa.Ev
open Go

abbrev V2 : Type := Int × Int
def NearP (p : V2) : Prop := -281474976710656 ≤ p.1 ∧ p.1 ≤ 281474976710656 ∧ -281474976710656 ≤ p.2 ∧ p.2 ≤ 281474976710656
instance (p : V2) : Decidable (NearP p) := by unfold NearP; infer_instance
theorem rdx_at {α : Type} {l : List α} {i : Nat} {x : α} (h : l[i]? = some x) : rdx l (i : Int) = some x := by
  unfold rdx
  rw [decide_eq_true (by omega)]
  simpa using h
theorem idx_at {i n : Nat} (h : i < n) : idx (i : Int) n = some i := by
  unfold idx
  rw [decide_eq_true (by omega)]
  simp
theorem nearK (n : Nat) (v) : K23_0 (n + 1) v = B23_0_2 (K23_0 n) v := rfl
theorem near_loop (l : List V2) (hl : l.length ≤ 900) : ∀ (d i n : Nat), i + d = l.length → d < n → K23_0 n (l, ((l.length : Int), (i : Int))) = some ((l.drop i).all fun p => decide (NearP p)) := by
  intro d
  induction d with
  | zero =>
    intro i n h hn
    obtain ⟨n, rfl⟩ : ∃ m, n = m + 1 := ⟨n - 1, by omega⟩
    rw [nearK]
    unfold B23_0_2
    simp only [show decide ((i : Int) < (l.length : Int)) = false from decide_eq_false (by omega), cond_false, List.drop_eq_nil_of_le (show l.length ≤ i by omega), List.all_nil]
  | succ d ih =>
    intro i n h hn
    obtain ⟨n, rfl⟩ : ∃ m, n = m + 1 := ⟨n - 1, by omega⟩
    have hi : i < l.length := by omega
    rw [nearK]
    unfold B23_0_2
    have hg : l[i]? = some l[i] := List.getElem?_eq_getElem hi
    simp only [show decide ((i : Int) < (l.length : Int)) = true from decide_eq_true (by omega), cond_true, rdx_at hg, Option.bind_some]
    rw [List.drop_eq_getElem_cons hi, List.all_cons]
    generalize l[i] = p
    have ew : IntKind.wrap .i64 ((i : Int) + 1) = ((i + 1 : Nat) : Int) := by rw [IntKind.wrap_i64]; omega
    rw [ew, ih (i + 1) n (by omega) (by omega)]
    by_cases h1 : (if p.2 > p.1 then p.2 else p.1) > 281474976710656
    · rw [decide_eq_true h1, cond_true, decide_eq_false (show ¬ NearP p by unfold NearP; split at h1 <;> omega), Bool.false_and]
    · rw [decide_eq_false h1, cond_false]
      by_cases h2 : (if p.2 < p.1 then p.2 else p.1) < -281474976710656
      · rw [decide_eq_true h2, cond_true, decide_eq_false (show ¬ NearP p by unfold NearP; split at h2 <;> omega), Bool.false_and]
      · rw [decide_eq_false h2, cond_false, decide_eq_true (show NearP p by unfold NearP; split at h1 <;> split at h2 <;> omega), Bool.true_and]
theorem near_eq (l : List V2) (hl : l.length ≤ 900) : F23_0 l = some (l.all fun p => decide (NearP p)) := near_loop l hl l.length 0 1000 (by omega) (by omega)
theorem rnearK (n : Nat) (v) : K34_0 (n + 1) v = B34_0_2 (K34_0 n) v := rfl
theorem rnear_loop (l : List V2) (hl : l.length ≤ 900) : ∀ (d i n : Nat), i + d = l.length → d < n → K34_0 n (l, (i : Int)) = some ((l.drop i).all fun p => decide (NearP p)) := by
  intro d
  induction d with
  | zero =>
    intro i n h hn
    obtain ⟨n, rfl⟩ : ∃ m, n = m + 1 := ⟨n - 1, by omega⟩
    rw [rnearK]
    unfold B34_0_2
    simp only [show decide ((i : Int) < (l.length : Int)) = false from decide_eq_false (by omega), cond_false, List.drop_eq_nil_of_le (show l.length ≤ i by omega), List.all_nil]
  | succ d ih =>
    intro i n h hn
    obtain ⟨n, rfl⟩ : ∃ m, n = m + 1 := ⟨n - 1, by omega⟩
    have hi : i < l.length := by omega
    rw [rnearK]
    unfold B34_0_2
    have hg : l[i]? = some l[i] := List.getElem?_eq_getElem hi
    simp only [show decide ((i : Int) < (l.length : Int)) = true from decide_eq_true (by omega), cond_true, rdx_at hg, Option.bind_some]
    rw [List.drop_eq_getElem_cons hi, List.all_cons]
    generalize l[i] = p
    have ew : IntKind.wrap .i64 ((i : Int) + 1) = ((i + 1 : Nat) : Int) := by rw [IntKind.wrap_i64]; omega
    rw [ew, ih (i + 1) n (by omega) (by omega)]
    by_cases h1 : p.1 > 281474976710656
    · rw [decide_eq_true h1, cond_true, decide_eq_false (show ¬ NearP p by unfold NearP; omega), Bool.false_and]
    · rw [decide_eq_false h1, cond_false]
      by_cases h2 : p.1 < -281474976710656
      · rw [decide_eq_true h2, cond_true, decide_eq_false (show ¬ NearP p by unfold NearP; omega), Bool.false_and]
      · rw [decide_eq_false h2, cond_false]
        by_cases h3 : p.2 > 281474976710656
        · rw [decide_eq_true h3, cond_true, decide_eq_false (show ¬ NearP p by unfold NearP; omega), Bool.false_and]
        · rw [decide_eq_false h3, cond_false]
          by_cases h4 : p.2 < -281474976710656
          · rw [decide_eq_true h4, cond_true, decide_eq_false (show ¬ NearP p by unfold NearP; omega), Bool.false_and]
          · rw [decide_eq_false h4, cond_false, decide_eq_true (show NearP p by unfold NearP; omega), Bool.true_and]
theorem rnear_eq (l : List V2) (hl : l.length ≤ 900) : F34_0 l = some (l.all fun p => decide (NearP p)) := rnear_loop l hl l.length 0 1000 (by omega) (by omega)

/-- The number whose sign is the side. -/
def areaS (a b p : V2) : Int := (b.1 - a.1) * (p.2 - a.2) - (b.2 - a.2) * (p.1 - a.1)
theorem near_prod {x y : Int} (hx : -562949953421312 ≤ x ∧ x ≤ 562949953421312) (hy : -562949953421312 ≤ y ∧ y ≤ 562949953421312) : -316912650057057350374175801344 ≤ x * y ∧ x * y ≤ 316912650057057350374175801344 := by
  have h := Int.natAbs_mul x y
  have h1 : x.natAbs ≤ 562949953421312 := by omega
  have h2 : y.natAbs ≤ 562949953421312 := by omega
  have h3 := Nat.mul_le_mul h1 h2
  rw [← h] at h3
  generalize x * y = p at *
  omega
theorem areaS_in {a b p : V2} (ha : NearP a) (hb : NearP b) (hp : NearP p) : -633825300114114700748351602688 ≤ areaS a b p ∧ areaS a b p ≤ 633825300114114700748351602688 := by
  unfold NearP at *
  have h1 := near_prod (x := b.1 - a.1) (y := p.2 - a.2) ⟨by omega, by omega⟩ ⟨by omega, by omega⟩
  have h2 := near_prod (x := b.2 - a.2) (y := p.1 - a.1) ⟨by omega, by omega⟩ ⟨by omega, by omega⟩
  unfold areaS
  omega
theorem less_eq {x y : Int} (hx : -1267650600228229401496703205376 ≤ x ∧ x ≤ 1267650600228229401496703205376) (hy : -1267650600228229401496703205376 ≤ y ∧ y ≤ 1267650600228229401496703205376) : F27_0 (wd x, wd y) = some (wd (x - y)) := by
  unfold F27_0
  simp only []
  have ix : I128 x := by unfold I128; omega
  have iy : I128 y := by unfold I128; omega
  rw [negw_eq (wd_ok iy) (by rw [wv_wd]; unfold I128; omega), wv_wd]
  simp only [Option.bind_some]
  rw [addw_eq (wd_ok ix) (wd_ok (by unfold I128; omega)) (by rw [wv_wd, wv_wd]; unfold I128; omega), wv_wd, wv_wd]
  rfl
theorem area_eq {a b p : V2} (ha : NearP a) (hb : NearP b) (hp : NearP p) : F24_0 (a, (b, p)) = some (wd (areaS a b p)) := by
  have ha' := ha; have hb' := hb; have hp' := hp
  unfold NearP at ha' hb' hp'
  have fr : ∀ {x y : V2}, NearP x → NearP y → F41_0 (x, y) = some (y.1 - x.1, y.2 - x.2) := by
    intro x y hx hy
    unfold NearP at hx hy
    unfold F41_0
    simp only []
    rw [wrap_i64 (n := y.1 - x.1) ⟨by omega, by omega⟩, wrap_i64 (n := y.2 - x.2) ⟨by omega, by omega⟩]
  unfold F24_0
  simp only [fr ha hb, fr ha hp, Option.bind_some]
  unfold F42_0
  simp only []
  rw [mulw_eq (a := b.1 - a.1) (b := p.2 - a.2) ⟨by omega, by omega⟩ ⟨by omega, by omega⟩, mulw_eq (a := b.2 - a.2) (b := p.1 - a.1) ⟨by omega, by omega⟩ ⟨by omega, by omega⟩]
  simp only [Option.bind_some]
  have h1 := near_prod (x := b.1 - a.1) (y := p.2 - a.2) ⟨by omega, by omega⟩ ⟨by omega, by omega⟩
  have h2 := near_prod (x := b.2 - a.2) (y := p.1 - a.1) ⟨by omega, by omega⟩ ⟨by omega, by omega⟩
  rw [less_eq ⟨by omega, by omega⟩ ⟨by omega, by omega⟩]
  rfl
theorem rarea_eq {a b p : V2} (ha : NearP a) (hb : NearP b) (hp : NearP p) : F35_0 (a, (b, p)) = some (nd (areaS a b p)) := by
  unfold NearP at ha hb hp
  unfold F35_0
  simp only []
  rw [wrap_i64 (n := b.2 - a.2) ⟨by omega, by omega⟩, wrap_i64 (n := p.1 - a.1) ⟨by omega, by omega⟩, wrap_i64 (n := b.1 - a.1) ⟨by omega, by omega⟩, wrap_i64 (n := p.2 - a.2) ⟨by omega, by omega⟩]
  have h1 := near_prod (x := b.1 - a.1) (y := p.2 - a.2) ⟨by omega, by omega⟩ ⟨by omega, by omega⟩
  have h2 := near_prod (x := b.2 - a.2) (y := p.1 - a.1) ⟨by omega, by omega⟩ ⟨by omega, by omega⟩
  have m1 := mul1_eq (a := b.2 - a.2) (b := p.1 - a.1) ⟨by omega, by omega⟩ ⟨by omega, by omega⟩
  have m2 := mul1_eq (a := b.1 - a.1) (b := p.2 - a.2) ⟨by omega, by omega⟩ ⟨by omega, by omega⟩
  rw [m1, m2]
  unfold areaS
  generalize (b.1 - a.1) * (p.2 - a.2) = x at *
  generalize (b.2 - a.2) * (p.1 - a.1) = y at *
  have c := sz1_cases y
  have c' := sz1_cases (-y)
  have hu : U128 (sz1 y) := by unfold U128; omega
  have hs : sz1 (-y) = sz1 y := by omega
  simp only [Option.bind_some, nd_eq y, zero1_eq _ hu]
  have hadd := add1_eq (a := x) (b := -y) (by unfold S127; omega) (by unfold S127; omega) ⟨by omega, by omega⟩
  rw [nd_eq (-y), hs, show x + -y = x - y by omega] at hadd
  by_cases h0 : sz1 y = 0
  · rw [decide_eq_true h0, cond_true]
    rw [decide_eq_false (show ¬ -y < 0 by omega)] at hadd
    simp only [hadd, Option.bind_some]
  · rw [decide_eq_false h0, cond_false]
    have e : (!decide (y < 0)) = decide (-y < 0) := by
      by_cases h1 : y < 0
      · rw [decide_eq_true h1, decide_eq_false (by omega)]; rfl
      · rw [decide_eq_false h1, decide_eq_true (by omega)]; rfl
    rw [e]
    simp only [hadd, Option.bind_some]
def sideS (a b p : V2) : Int := if NearP a ∧ NearP b ∧ NearP p then sign3 (areaS a b p) else 0
theorem side_eq (a b p : V2) : F16_0 (a, (b, p)) = some (sideS a b p) := by
  unfold F16_0 sideS
  simp only []
  rw [near_eq _ (by simp)]
  simp only [Option.bind_some, List.all_cons, List.all_nil, Bool.and_true]
  by_cases h : NearP a ∧ NearP b ∧ NearP p
  · rw [if_pos h, decide_eq_true h.1, decide_eq_true h.2.1, decide_eq_true h.2.2]
    have hA := areaS_in h.1 h.2.1 h.2.2
    simp only [Bool.and_self, Bool.not_true, cond_false, area_eq h.1 h.2.1 h.2.2, Option.bind_some]
    rw [signw_eq (wd_ok (by unfold I128; omega)), wv_wd]; rfl
  · rw [if_neg h]
    have e : (decide (NearP a) && (decide (NearP b) && decide (NearP p))) = false := by
      by_cases h1 : NearP a <;> by_cases h2 : NearP b <;> by_cases h3 : NearP p <;> simp_all
    rw [e]; rfl
theorem rside_eq (a b p : V2) : F37_0 (a, (b, p)) = some (sideS a b p) := by
  unfold F37_0 sideS
  simp only []
  rw [rnear_eq _ (by simp)]
  simp only [Option.bind_some, List.all_cons, List.all_nil, Bool.and_true]
  by_cases h : NearP a ∧ NearP b ∧ NearP p
  · rw [if_pos h, decide_eq_true h.1, decide_eq_true h.2.1, decide_eq_true h.2.2]
    have hA := areaS_in h.1 h.2.1 h.2.2
    simp only [Bool.and_self, Bool.not_true, cond_false, rarea_eq h.1 h.2.1 h.2.2, Option.bind_some]
    rw [sign1_eq (by unfold S127; omega)]; rfl
  · rw [if_neg h]
    have e : (decide (NearP a) && (decide (NearP b) && decide (NearP p))) = false := by
      by_cases h1 : NearP a <;> by_cases h2 : NearP b <;> by_cases h3 : NearP p <;> simp_all
    rw [e]; rfl
def AllNear (a b p q : V2) : Prop := NearP a ∧ NearP b ∧ NearP p ∧ NearP q
instance (a b p q : V2) : Decidable (AllNear a b p q) := by unfold AllNear; infer_instance
/-- Is a gate crossed ahead, and where? -/
def Ahead (a b p q : V2) : Prop := AllNear a b p q ∧ areaS a b p ≤ 0 ∧ 0 < areaS a b q ∧ 0 ≤ areaS p q a ∧ areaS p q b < 0
instance (a b p q : V2) : Decidable (Ahead a b p q) := by unfold Ahead; infer_instance
def crossS (a b p q : V2) : Int × Bool := if Ahead a b p q then (partS (-areaS a b p) (areaS a b q - areaS a b p), true) else (0, false)
theorem sign3_gt (n : Int) : decide (sign3 n > 0) = decide (n > 0) := by unfold sign3; split <;> (try split) <;> simp <;> omega
theorem sign3_le (n : Int) : decide (sign3 n ≤ 0) = decide (n ≤ 0) := by unfold sign3; split <;> (try split) <;> simp <;> omega
theorem sign3_lt (n : Int) : decide (sign3 n < 0) = decide (n < 0) := by unfold sign3; split <;> (try split) <;> simp <;> omega
theorem sign3_ge (n : Int) : decide (sign3 n ≥ 0) = decide (n ≥ 0) := by unfold sign3; split <;> (try split) <;> simp <;> omega
theorem and4 {a b p q : V2} : (decide (NearP a) && (decide (NearP b) && (decide (NearP p) && decide (NearP q)))) = decide (AllNear a b p q) := by
  unfold AllNear
  by_cases h1 : NearP a <;> by_cases h2 : NearP b <;> by_cases h3 : NearP p <;> by_cases h4 : NearP q <;> simp_all
theorem cross_eq (a b p q : V2) : F15_0 (a, (b, (p, q))) = some (crossS a b p q) := by
  unfold F15_0 crossS
  simp only []
  rw [near_eq _ (by simp)]
  simp only [Option.bind_some, List.all_cons, List.all_nil, Bool.and_true, and4]
  by_cases h : AllNear a b p q
  · obtain ⟨ha, hb, hp, hq⟩ := h
    have hs := areaS_in ha hb hp
    have ht := areaS_in ha hb hq
    have hu := areaS_in hp hq ha
    have hv := areaS_in hp hq hb
    have i1 : I128 (areaS a b p) := by unfold I128; omega
    have i2 : I128 (areaS a b q) := by unfold I128; omega
    simp only [decide_eq_true (show AllNear a b p q from ⟨ha, hb, hp, hq⟩), Bool.not_true, cond_false, area_eq ha hb hp, area_eq ha hb hq, Option.bind_some, signw_eq (wd_ok i1), signw_eq (wd_ok i2), wv_wd, sign3_gt, sign3_le, side_eq]
    have e1 : sideS p q a = sign3 (areaS p q a) := if_pos ⟨hp, hq, ha⟩
    have e2 : sideS p q b = sign3 (areaS p q b) := if_pos ⟨hp, hq, hb⟩
    rw [e1, e2, sign3_lt, sign3_ge]
    by_cases h1 : areaS a b p > 0
    · rw [decide_eq_true h1, cond_true, if_neg (fun hh => by have := hh.2.1; omega)]
    · rw [decide_eq_false h1, cond_false]
      by_cases h2 : areaS a b q ≤ 0
      · rw [decide_eq_true h2, cond_true, if_neg (fun hh => by have := hh.2.2.1; omega)]
      · rw [decide_eq_false h2, cond_false]
        by_cases h3 : areaS p q a < 0
        · rw [decide_eq_true h3, cond_true, if_neg (fun hh => by have := hh.2.2.2.1; omega)]
        · rw [decide_eq_false h3, cond_false]
          by_cases h4 : areaS p q b ≥ 0
          · rw [decide_eq_true h4, cond_true, if_neg (fun hh => by have := hh.2.2.2.2; omega)]
          · rw [decide_eq_false h4, cond_false, if_pos ⟨⟨ha, hb, hp, hq⟩, by omega, by omega, by omega, by omega⟩]
            have z : ((0 : Int), (0 : Int)) = wd 0 := rfl
            rw [z, less_eq ⟨by decide, by decide⟩ ⟨by omega, by omega⟩]
            simp only [Option.bind_some]
            rw [less_eq ⟨by omega, by omega⟩ ⟨by omega, by omega⟩]
            simp only [Option.bind_some]
            rw [partw_eq (wd_ok (by unfold I128; omega)) (wd_ok (by unfold I128; omega)), wv_wd, wv_wd, show 0 - areaS a b p = -areaS a b p by omega]
            rfl
  · rw [decide_eq_false h, if_neg (fun hh => h hh.1)]; rfl
theorem rcross_eq (a b p q : V2) : F21_0 (a, (b, (p, q))) = some (crossS a b p q) := by
  unfold F21_0 crossS
  simp only []
  rw [rnear_eq _ (by simp)]
  simp only [Option.bind_some, List.all_cons, List.all_nil, Bool.and_true, and4]
  by_cases h : AllNear a b p q
  · obtain ⟨ha, hb, hp, hq⟩ := h
    have hs := areaS_in ha hb hp
    have ht := areaS_in ha hb hq
    have hu := areaS_in hp hq ha
    have hv := areaS_in hp hq hb
    have i1 : S127 (areaS a b p) := by unfold S127; omega
    have i2 : S127 (areaS a b q) := by unfold S127; omega
    have s3 : ∀ n, sgn3 n = sign3 n := fun _ => rfl
    simp only [decide_eq_true (show AllNear a b p q from ⟨ha, hb, hp, hq⟩), Bool.not_true, cond_false, rarea_eq ha hb hp, rarea_eq ha hb hq, Option.bind_some, sign1_eq i1, sign1_eq i2, s3, sign3_gt, sign3_le, rside_eq]
    have e1 : sideS p q a = sign3 (areaS p q a) := if_pos ⟨hp, hq, ha⟩
    have e2 : sideS p q b = sign3 (areaS p q b) := if_pos ⟨hp, hq, hb⟩
    rw [e1, e2, sign3_lt, sign3_ge]
    by_cases h1 : areaS a b p > 0
    · rw [decide_eq_true h1, cond_true, if_neg (fun hh => by have := hh.2.1; omega)]
    · rw [decide_eq_false h1, cond_false]
      by_cases h2 : areaS a b q ≤ 0
      · rw [decide_eq_true h2, cond_true, if_neg (fun hh => by have := hh.2.2.1; omega)]
      · rw [decide_eq_false h2, cond_false]
        by_cases h3 : areaS p q a < 0
        · rw [decide_eq_true h3, cond_true, if_neg (fun hh => by have := hh.2.2.2.1; omega)]
        · rw [decide_eq_false h3, cond_false]
          by_cases h4 : areaS p q b ≥ 0
          · rw [decide_eq_true h4, cond_true, if_neg (fun hh => by have := hh.2.2.2.2; omega)]
          · rw [decide_eq_false h4, cond_false, if_pos ⟨⟨ha, hb, hp, hq⟩, by omega, by omega, by omega, by omega⟩]
            simp only [opp_eq i1, Option.bind_some]
            rw [add1_eq i2 (by unfold S127; omega) ⟨by omega, by omega⟩]
            simp only [Option.bind_some]
            rw [part1_eq (by unfold S127; omega) ⟨by omega, by omega⟩, show areaS a b q + -areaS a b p = areaS a b q - areaS a b p by omega]
            rfl
  · rw [decide_eq_false h, if_neg (fun hh => h hh.1)]; rfl
theorem cross_part (a b p q : V2) : 0 ≤ (crossS a b p q).1 ∧ (crossS a b p q).1 ≤ 4294967295 := by
  unfold crossS
  split
  · exact partS_in _ _
  · decide
end Go.Proofs.Ytdjjinfpfjoniaa.Ev
