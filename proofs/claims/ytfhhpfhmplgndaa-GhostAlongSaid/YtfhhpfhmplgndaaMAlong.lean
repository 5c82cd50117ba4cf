/- Chapter 42: how far along a place is. -/
import Derived.Test.YtfhhpfhmplgndaaMPlane
import Derived.Test.YtfhhpfhmplgndaaMGhost
set_option linter.unusedVariables false
set_option linter.unusedSimpArgs false
namespace Go.Proofs.Ytfhhpfhmplgndaa.Ev
open Go

theorem far_eq (p : V2) : F78_0 p = some (!decide (NearP p)) := by
  unfold F78_0
  simp only []
  by_cases h1 : (if p.2 > p.1 then p.2 else p.1) > 281474976710656
  · rw [decide_eq_true h1, cond_true, decide_eq_false (show ¬ NearP p by unfold NearP; split at h1 <;> omega)]; rfl
  · rw [decide_eq_false h1, cond_false]
    by_cases h2 : (if p.2 < p.1 then p.2 else p.1) < -281474976710656
    · rw [decide_eq_true h2, decide_eq_false (show ¬ NearP p by unfold NearP; split at h2 <;> omega)]; rfl
    · rw [decide_eq_false h2, decide_eq_true (show NearP p by unfold NearP; split at h1 <;> split at h2 <;> omega)]; rfl
theorem c100K (n : Nat) (v) : K100_0 (n + 1) v = B100_0_2 (K100_0 n) v := rfl
theorem far_loop (l : List V2) (hl : l.length ≤ 900) : ∀ (d i n : Nat), i + d = l.length → d < n → ∃ r : Int, K100_0 n (l, ((l.length : Int), (i : Int))) = some r ∧ decide (r ≥ 0) = !((l.drop i).all fun p => decide (NearP p)) := by
  intro d
  induction d with
  | zero =>
    intro i n h hn
    obtain ⟨n, rfl⟩ : ∃ m, n = m + 1 := ⟨n - 1, by omega⟩
    rw [c100K]
    unfold B100_0_2
    simp only [show decide ((i : Int) < (l.length : Int)) = false from decide_eq_false (by omega), cond_false, List.drop_eq_nil_of_le (show l.length ≤ i by omega), List.all_nil]
    exact ⟨_, rfl, rfl⟩
  | succ d ih =>
    intro i n h hn
    obtain ⟨n, rfl⟩ : ∃ m, n = m + 1 := ⟨n - 1, by omega⟩
    have hi : i < l.length := by omega
    have hg : l[i]? = some l[i] := List.getElem?_eq_getElem hi
    have ew : IntKind.wrap .i64 ((i : Int) + 1) = ((i + 1 : Nat) : Int) := gwN (by omega) (by omega)
    rw [c100K]
    unfold B100_0_2
    simp only [show decide ((i : Int) < (l.length : Int)) = true from decide_eq_true (by omega), cond_true, rdx_at hg, Option.bind_some, far_eq, ew]
    rw [List.drop_eq_getElem_cons hi, List.all_cons]
    generalize l[i] = p
    cases decide (NearP p) with
    | false => exact ⟨(i : Int), rfl, decide_eq_true (by omega)⟩
    | true => rw [Bool.true_and]; exact ih (i + 1) n (by omega) (by omega)
theorem contains_eq (l : List V2) (hl : l.length ≤ 900) : F79_0 l = some (!(l.all fun p => decide (NearP p))) := by
  obtain ⟨r, e, h⟩ := far_loop l hl l.length 0 1000 (by omega) (by omega)
  have e' : F100_0 l = some r := e
  unfold F79_0
  rw [e']
  simp only [Option.bind_some]
  rw [h, List.drop_zero]
def wayS (p q : V2) : Int := (q.1 - p.1) * (q.1 - p.1) + (q.2 - p.2) * (q.2 - p.2)
def nearestL (p : V2) : List V2 → Int → Int → Int → Int
  | [], _, at', _ => at'
  | q :: l, i, at', best => if at' < 0 ∨ wayS p q < best then nearestL p l (i + 1) i (wayS p q) else nearestL p l (i + 1) at' best
theorem sq_in {x : Int} (h : -562949953421312 ≤ x ∧ x ≤ 562949953421312) : 0 ≤ x * x ∧ x * x ≤ 316912650057057350374175801344 := by
  refine ⟨?_, (near_prod h h).2⟩
  rcases Int.le_total 0 x with h0 | h0
  · exact Int.mul_nonneg h0 h0
  · exact Int.mul_nonneg_of_nonpos_of_nonpos h0 h0
theorem way_in {p q : V2} (hp : NearP p) (hq : NearP q) : 0 ≤ wayS p q ∧ wayS p q ≤ 633825300114114700748351602688 := by
  unfold NearP at hp hq
  have h1 := sq_in (x := q.1 - p.1) (by omega)
  have h2 := sq_in (x := q.2 - p.2) (by omega)
  unfold wayS
  omega
theorem n44K (n : Nat) (v) : K44_0 (n + 1) v = B44_0_5 (K44_0 n) v := rfl
theorem n45K (n : Nat) (v) : K45_0 (n + 1) v = B45_0_6 (K45_0 n) v := rfl
theorem cmp3_lt (a b : Int) : decide (cmp3 a b < 0) = decide (a < b) := by
  unfold cmp3
  by_cases h : a < b
  · simp [h]
  · by_cases h2 : a > b
    · simp [h, h2]
    · simp [h, h2]
theorem nearest_loop (l : List V2) (hl : l.length ≤ 900) (p : V2) (hp : NearP p) (hn : ∀ q ∈ l, NearP q) : ∀ (d i n : Nat) (at' best : Int), i + d = l.length → d < n → 0 ≤ best → best ≤ 633825300114114700748351602688 →
    K44_0 n ((at', (l, ((l.length : Int), (i : Int)))), (wd best, p)) = some (nearestL p (l.drop i) (i : Int) at' best) ∧
    K45_0 n ((l, (at', (i : Int))), (nd best, p)) = some (nearestL p (l.drop i) (i : Int) at' best) := by
  intro d
  induction d with
  | zero =>
    intro i n at' best h hN b0 b1
    obtain ⟨n, rfl⟩ : ∃ m, n = m + 1 := ⟨n - 1, by omega⟩
    rw [n44K, n45K, List.drop_eq_nil_of_le (show l.length ≤ i by omega)]
    unfold B44_0_5 B45_0_6
    simp only [show decide ((i : Int) < (l.length : Int)) = false from decide_eq_false (by omega), cond_false]
    exact ⟨rfl, rfl⟩
  | succ d ih =>
    intro i n at' best h hN b0 b1
    obtain ⟨n, rfl⟩ : ∃ m, n = m + 1 := ⟨n - 1, by omega⟩
    have hi : i < l.length := by omega
    obtain ⟨q, hg⟩ := gget hi
    have hq := hn q (List.mem_of_getElem? hg)
    have hdrop : l.drop i = q :: l.drop (i + 1) := by
      rw [List.drop_eq_getElem_cons hi]
      rw [List.getElem?_eq_getElem hi] at hg
      rw [Option.some.inj hg]
    have ew : IntKind.wrap .i64 ((i : Int) + 1) = ((i + 1 : Nat) : Int) := gwN (by omega) (by omega)
    obtain ⟨w0, w1⟩ := way_in hp hq
    have ih1 := fun at' best b0 b1 => ih (i + 1) n at' best (by omega) (by omega) b0 b1
    have hL : nearestL p (l.drop i) (i : Int) at' best = if at' < 0 ∨ wayS p q < best then nearestL p (l.drop (i + 1)) ((i + 1 : Nat) : Int) (i : Int) (wayS p q) else nearestL p (l.drop (i + 1)) ((i + 1 : Nat) : Int) at' best := by
      rw [hdrop]; rfl
    have p1 := hp
    have q1 := hq
    unfold NearP at p1 q1
    have s1 := sq_in (x := q.1 - p.1) (by omega)
    have s2 := sq_in (x := q.2 - p.2) (by omega)
    have e1 : IntKind.wrap .i64 (q.1 - p.1) = q.1 - p.1 := gw64 (by omega)
    have e2 : IntKind.wrap .i64 (q.2 - p.2) = q.2 - p.2 := gw64 (by omega)
    have m1 : I64 (q.1 - p.1) := by unfold I64; omega
    have m2 : I64 (q.2 - p.2) := by unfold I64; omega
    rw [hL, n44K, n45K]
    unfold B44_0_5 B45_0_6
    have ew' : wayS p q = (q.1 - p.1) * (q.1 - p.1) + (q.2 - p.2) * (q.2 - p.2) := rfl
    have a1 : F68_0 (wd ((q.1 - p.1) * (q.1 - p.1)), wd ((q.2 - p.2) * (q.2 - p.2))) = some (wd (wayS p q), true) := by
      rw [addw_eq (wd_ok (by unfold I128; omega)) (wd_ok (by unfold I128; omega)) (by rw [wv_wd, wv_wd]; unfold I128; omega), wv_wd, wv_wd, ew']
    have a2 : F81_0 (nd ((q.1 - p.1) * (q.1 - p.1)), nd ((q.2 - p.2) * (q.2 - p.2))) = some (nd (wayS p q), true) := by
      rw [add1_eq (by unfold S127; omega) (by unfold S127; omega) (by omega), ew']
    have c1 : F63_0 (wd (wayS p q), wd best) = some (cmp3 (wayS p q) best) := by
      rw [cmpw_eq (wd_ok (by unfold I128; omega)) (wd_ok (by unfold I128; omega)), wv_wd, wv_wd]
    have c2 : F83_0 (nd (wayS p q), nd best) = some (if wayS p q < best then -1 else if wayS p q > best then 1 else 0) := cmp1_eq (by unfold S127; omega) (by unfold S127; omega)
    have c3 : decide ((if wayS p q < best then (-1 : Int) else if wayS p q > best then 1 else 0) < 0) = decide (wayS p q < best) := cmp3_lt (wayS p q) best
    simp only [show decide ((i : Int) < (l.length : Int)) = true from decide_eq_true (by omega), cond_true, rdx_at hg, Option.bind_some, e1, e2, mulw_eq m1 m1, mulw_eq m2 m2, mul1_eq m1 m1, mul1_eq m2 m2, a1, a2, ew, c1, c2, c3, cmp3_lt]
    by_cases h1 : at' < 0
    · rw [decide_eq_true h1, cond_true, cond_true, if_pos (Or.inl h1)]
      exact ih1 _ _ w0 w1
    · rw [decide_eq_false h1, cond_false, cond_false]
      by_cases h2 : wayS p q < best
      · rw [decide_eq_true h2, cond_true, cond_true, if_pos (Or.inr h2)]
        exact ih1 _ _ w0 w1
      · rw [decide_eq_false h2, cond_false, cond_false, if_neg (by omega)]
        exact ih1 _ _ b0 b1
def nearestS (l : List V2) (p : V2) : Int := if (l.all fun q => decide (NearP q)) = true ∧ NearP p then nearestL p l 0 (-1) 0 else -1
theorem nearest_eq (l : List V2) (hl : l.length ≤ 900) (p : V2) : F44_0 (l, p) = some (nearestS l p) ∧ F45_0 (l, p) = some (nearestS l p) := by
  have E1 : ∀ K, E44_0 K (l, p) = (F78_0 p).bind fun r => bif r then some (-1) else (F79_0 l).bind fun r => bif r then some (-1) else
    K (((-1 : Int), (l, ((l.length : Int), (0 : Int)))), (wd 0, p)) := fun _ => rfl
  have E2 : ∀ K, E45_0 K (l, p) = (F80_0 l).bind fun r => bif !r then some (-1) else (F80_0 [p]).bind fun r => bif !r then some (-1) else
    K ((l, ((-1 : Int), (0 : Int))), (nd 0, p)) := fun _ => rfl
  have h1 : F44_0 (l, p) = E44_0 (K44_0 1000) (l, p) := rfl
  have h2 : F45_0 (l, p) = E45_0 (K45_0 1000) (l, p) := rfl
  rw [h1, h2, E1, E2, far_eq, contains_eq l hl, rnear_eq l hl, rnear_eq [p] (by simp)]
  simp only [Option.bind_some, List.all_cons, List.all_nil, Bool.and_true]
  unfold nearestS
  cases hA : l.all fun q => decide (NearP q) with
  | false =>
    rw [if_neg (fun hh => by cases hh.1), Bool.not_false, cond_true, cond_true]
    refine ⟨?_, rfl⟩
    cases decide (NearP p) <;> rfl
  | true =>
    rw [Bool.not_true, cond_false, cond_false]
    by_cases hp : NearP p
    · rw [decide_eq_true hp, Bool.not_true, cond_false, cond_false, if_pos ⟨rfl, hp⟩]
      have hall : ∀ q ∈ l, NearP q := fun q hq => of_decide_eq_true (List.all_eq_true.1 hA q hq)
      have := nearest_loop l hl p hp hall l.length 0 1000 (-1) 0 (Nat.zero_add _) (by omega) (by decide) (by decide)
      rw [List.drop_zero] at this
      exact this
    · rw [decide_eq_false hp, Bool.not_false, cond_true, cond_true, if_neg (fun hh => hp hh.2)]
      exact ⟨rfl, rfl⟩
theorem nearestL_lt (p : V2) : ∀ (l : List V2) (i at' best : Int), at' < i → 0 ≤ i → nearestL p l i at' best < i + l.length := by
  intro l
  induction l with
  | nil => intro i at' best h _; show at' < i + 0; omega
  | cons q l ih =>
    intro i at' best h h0
    rw [nearestL, List.length_cons]
    split
    · have := ih (i + 1) i (wayS p q) (by omega) (by omega); omega
    · have := ih (i + 1) at' best (by omega) (by omega); omega
theorem law7_0 (v : A7_0) (h : Dom7_0 v) : F7_0 v = some true := by
  obtain ⟨l, ls, p⟩ := v
  unfold F7_0
  simp only []
  by_cases c1 : (l.length : Int) > 100
  · rw [decide_eq_true c1, cond_true]
  · rw [decide_eq_false c1, cond_false]
    by_cases c2 : (ls.length : Int) > 200
    · rw [decide_eq_true c2, cond_true]
    · rw [decide_eq_false c2, cond_false]
      obtain ⟨h1, h2⟩ := nearest_eq l (by omega) p
      have e : ∃ x, F21_0 (l, (ls, p)) = some x ∧ F22_0 (l, (ls, p)) = some x := by
        unfold F21_0 F22_0
        simp only []
        rw [h1, h2]
        simp only [Option.bind_some]
        by_cases d1 : 0 ≤ nearestS l p
        · rw [decide_eq_true d1, cond_true, decide_eq_false (show ¬ nearestS l p < 0 by omega), cond_false]
          by_cases d2 : nearestS l p < (ls.length : Int)
          · rw [decide_eq_true d2, cond_true, decide_eq_false (show ¬ nearestS l p ≥ (ls.length : Int) by omega), cond_false]
            obtain ⟨k, hk⟩ : ∃ k : Nat, nearestS l p = k := ⟨(nearestS l p).toNat, by omega⟩
            rw [hk] at d2 ⊢
            obtain ⟨x, hx⟩ := gget (l := ls) (i := k) (by omega)
            rw [grdx hx]
            exact ⟨x, rfl, rfl⟩
          · rw [decide_eq_false d2, cond_false, decide_eq_true (show nearestS l p ≥ (ls.length : Int) by omega), cond_true]
            exact ⟨0, rfl, rfl⟩
        · rw [decide_eq_false d1, cond_false, decide_eq_true (show nearestS l p < 0 by omega), cond_true]
          exact ⟨0, rfl, rfl⟩
      obtain ⟨x, e1, e2⟩ := e
      rw [e1, e2]
      simp only [Option.bind_some, beq_self_eq_true, cond_true, awake42]
end Go.Proofs.Ytfhhpfhmplgndaa.Ev
