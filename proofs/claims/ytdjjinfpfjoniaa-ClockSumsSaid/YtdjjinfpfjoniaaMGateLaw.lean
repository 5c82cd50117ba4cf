/- Chapter 30: the laws of the gates. -/
import Derived.Test.YtdjjinfpfjoniaaMGate
set_option linter.unusedVariables false
set_option linter.unusedSimpArgs false
namespace Go.Proofs.Ytdjjinfpfjoniaa.Ev
open Go

set_option maxRecDepth 100000 in
theorem awake30 : F14_0 () = some true := by kernel_rfl
theorem row_len (l : List Gt) (nx : Nat) (p q : V2) : ∀ (d i : Nat) (last : Int), (rowS l nx p q d i last).length ≤ d := by
  intro d
  induction d with
  | zero => intro i last; exact Nat.le_refl _
  | succ d ih =>
    intro i last
    rw [rowS]
    split
    · exact Nat.zero_le _
    · split
      · rw [List.length_cons]; exact Nat.succ_le_succ (ih _ _)
      · exact Nat.zero_le _
theorem rowS_at (l : List Gt) (nx : Nat) (p q : V2) : ∀ (d i : Nat) (last : Int) (j : Nat) (x : Ps), (rowS l nx p q d i last)[j]? = some x →
    last ≤ x.2.1 ∧ (∃ g, l[(nx + (i + j)) % l.length]? = some g ∧ x = ((((nx + (i + j)) % l.length : Nat) : Int), ((fwdS g p q).1, false)) ∧ (fwdS g p q).2 = true) ∧ (∀ y, 0 < j → (rowS l nx p q d i last)[j - 1]? = some y → y.2.1 ≤ x.2.1) := by
  intro d
  induction d with
  | zero => intro i last j x h; rw [rowS] at h; simp at h
  | succ d ih =>
    intro i last j x h
    rw [rowS] at h ⊢
    split at h
    · simp at h
    · rename_i g hg
      split at h
      · rename_i hc
        rw [if_pos hc]
        cases j with
        | zero =>
          simp only [List.getElem?_cons_zero, Option.some.injEq] at h
          subst h
          exact ⟨hc.2, ⟨g, hg, rfl, hc.1⟩, fun y hy => absurd hy (by omega)⟩
        | succ j =>
          rw [List.getElem?_cons_succ] at h
          obtain ⟨h1, ⟨g', h2, h3, h4⟩, h5⟩ := ih _ _ _ _ h
          rw [show i + 1 + j = i + (j + 1) by omega] at h2 h3
          refine ⟨by have := hc.2; omega, ⟨g', h2, h3, h4⟩, fun y _ hy => ?_⟩
          rw [Nat.add_sub_cancel] at hy
          cases j with
          | zero =>
            simp only [List.getElem?_cons_zero, Option.some.injEq] at hy
            subst hy
            exact h1
          | succ j =>
            rw [List.getElem?_cons_succ] at hy
            exact h5 y (by omega) (by simpa using hy)
      · simp at h
theorem back_len (l : List Gt) (k : Nat) (p q : V2) : (backS l k p q).length ≤ 1 := by
  unfold backS
  split
  · exact Nat.zero_le _
  · split
    · exact Nat.le_refl _
    · exact Nat.zero_le _
theorem pass_len (l : List Gt) (next : Int) (p q : V2) : (passS l next p q).length ≤ l.length := by
  unfold passS
  split
  · rename_i h
    unfold endS
    split
    · have := back_len l ((next.toNat + l.length - 1) % l.length) p q
      omega
    · exact row_len _ _ _ _ _ _ _
  · exact Nat.zero_le _
theorem pass_at (l : List Gt) (nx : Nat) (p q : V2) (hn : nx < l.length) (i : Nat) (x : Ps) (h : (passS l (nx : Int) p q)[i]? = some x) :
    (∃ g, l[(nx + i) % l.length]? = some g ∧ x = ((((nx + i) % l.length : Nat) : Int), ((fwdS g p q).1, false)) ∧ (fwdS g p q).2 = true ∧ (∀ y, 0 < i → (passS l (nx : Int) p q)[i - 1]? = some y → y.2.1 ≤ x.2.1)) ∨
    (i = 0 ∧ (passS l (nx : Int) p q).length = 1 ∧ ∃ (k : Nat) (g : Gt), l[k]? = some g ∧ x = ((k : Int), ((bwdS g p q).1, true)) ∧ (bwdS g p q).2 = true) := by
  have e : passS l (nx : Int) p q = endS l nx p q (rowS l nx p q l.length 0 0) := if_pos ⟨by omega, by omega⟩
  rw [e] at h ⊢
  unfold endS at h ⊢
  split at h
  · rename_i h0
    rw [if_pos h0]
    right
    generalize (nx + l.length - 1) % l.length = k at h ⊢
    unfold backS at h ⊢
    split at h
    · simp at h
    · rename_i g hg
      split at h
      · rename_i hc
        rw [if_pos hc]
        cases i with
        | zero =>
          simp only [List.getElem?_cons_zero, Option.some.injEq] at h
          exact ⟨rfl, rfl, k, g, hg, h.symm, hc⟩
        | succ i => simp at h
      · simp at h
  · rename_i h0
    rw [if_neg h0]
    left
    obtain ⟨_, ⟨g, h1, h2, h3⟩, h4⟩ := rowS_at _ _ _ _ _ _ _ _ _ h
    rw [Nat.zero_add] at h1 h2
    exact ⟨g, h1, h2, h3, h4⟩

/- GatePasses -/
theorem k3K (n : Nat) (v) : K3_0 (n + 1) v = B3_0_8 (K3_0 n) v := rfl
theorem k3_loop (ps : List Ps) (hp : ps.length ≤ 900) : ∀ (d i n : Nat), i + d = ps.length → d < n → K3_0 n ((i : Int), (ps, ps)) = some true := by
  intro d
  induction d with
  | zero =>
    intro i n h hn
    obtain ⟨n, rfl⟩ : ∃ m, n = m + 1 := ⟨n - 1, by omega⟩
    rw [k3K]
    unfold B3_0_8
    simp only [show decide ((i : Int) < (ps.length : Int)) = false from decide_eq_false (by omega), cond_false, awake30, Option.bind_some]
  | succ d ih =>
    intro i n h hn
    obtain ⟨n, rfl⟩ : ∃ m, n = m + 1 := ⟨n - 1, by omega⟩
    rw [k3K]
    unfold B3_0_8
    have hi : i < ps.length := by omega
    have hg : ps[i]? = some ps[i] := List.getElem?_eq_getElem hi
    have e5 : IntKind.wrap .i64 ((i : Int) + 1) = ((i + 1 : Nat) : Int) := wN (by omega) (by omega)
    simp only [show decide ((i : Int) < (ps.length : Int)) = true from decide_eq_true (by omega), cond_true, idx_at hi, Option.bind_some, hg, bne_self_eq_false, cond_false, beq_self_eq_true, Bool.not_true, e5]
    exact ih (i + 1) n (by omega) (by omega)
theorem law3_0 (v : A3_0) (h : Dom3_0 v) : F3_0 v = some true := by
  obtain ⟨l, next, a, b, c, d⟩ := v
  have E : ∀ K, E3_0 K (l, (next, (a, (b, (c, d))))) = bif decide ((l.length : Int) > 100) then some true else
      (F10_0 (l, (next, ((a, b), (c, d))))).bind fun r => (F11_0 (l, (next, ((a, b), (c, d))))).bind fun s =>
      bif ((r.length : Int) != (s.length : Int)) then some false else
      (F12_0 (l, (next, r))).bind fun t => (F13_0 (l, (next, s))).bind fun u =>
      bif (t != u) then some false else K ((0 : Int), (s, r)) := fun _ => rfl
  refine (E (K3_0 1000)).trans ?_
  by_cases hl : (l.length : Int) > 100
  · rw [decide_eq_true hl, cond_true]
  · have hl' : l.length ≤ 100 := by omega
    have hp := pass_len l next (a, b) (c, d)
    rw [decide_eq_false hl, cond_false, p10_eq _ (by omega), p11_eq _ (by omega)]
    simp only [Option.bind_some, bne_self_eq_false, cond_false]
    rw [n12_eq _ (by omega) _ _ (by omega), n13_eq _ (by omega) _ _ (by omega)]
    simp only [Option.bind_some, bne_self_eq_false, cond_false]
    exact k3_loop _ (by omega) _ 0 1000 (Nat.zero_add _) (by omega)

/- GateRow -/
theorem k4K (n : Nat) (v) : K4_0 (n + 1) v = B4_0_7 (K4_0 n) v := rfl
theorem k4_loop (l : List Gt) (hl : l.length ≤ 100) (nx : Nat) (hnx : nx < l.length) (a b c e : Int) : ∀ (d i n : Nat), i + d = (passS l (nx : Int) (a, b) (c, e)).length → d < n → K4_0 n ((l, ((nx : Int), (i : Int))), (passS l (nx : Int) (a, b) (c, e), (a, (b, (c, e))))) = some true := by
  intro d
  have hpl := pass_len l nx (a, b) (c, e)
  have hat := pass_at l nx (a, b) (c, e) hnx
  generalize passS l (nx : Int) (a, b) (c, e) = ps at hpl hat ⊢
  induction d with
  | zero =>
    intro i n h hn
    obtain ⟨n, rfl⟩ : ∃ m, n = m + 1 := ⟨n - 1, by omega⟩
    rw [k4K]
    unfold B4_0_7
    simp only [show decide ((i : Int) < (ps.length : Int)) = false from decide_eq_false (by omega), cond_false, show decide ((ps.length : Int) ≤ (l.length : Int)) = true from decide_eq_true (by omega), cond_true, awake30, Option.bind_some]
  | succ d ih =>
    intro i n h hn
    obtain ⟨n, rfl⟩ : ∃ m, n = m + 1 := ⟨n - 1, by omega⟩
    rw [k4K]
    unfold B4_0_7
    have hi : i < ps.length := by omega
    have hg : ps[i]? = some ps[i] := List.getElem?_eq_getElem hi
    have e5 : IntKind.wrap .i64 ((i : Int) + 1) = ((i + 1 : Nat) : Int) := wN (by omega) (by omega)
    have hih := ih (i + 1) n (by omega) (by omega)
    have hx := hat i _ hg
    have hm : (nx + i) % l.length < l.length := Nat.mod_lt _ (by omega)
    have e7 : IntKind.wrap .i64 ((nx : Int) + (i : Int)) = ((nx + i : Nat) : Int) := wN (by omega) (by omega)
    simp only [show decide ((i : Int) < (ps.length : Int)) = true from decide_eq_true (by omega), cond_true, idx_at hi, Option.bind_some, hg, e5, e7, chk_ne (show l.length ≠ 0 by omega), tmodN]
    rcases hx with ⟨g, h1, h2, h3, h4⟩ | ⟨h0, h1, k, g, h2, h3, h4⟩
    · rw [h2]
      have hf : crossS (g.1, g.2.1) (g.2.2.1, g.2.2.2.1) (a, b) (c, e) = fwdS g (a, b) (c, e) := rfl
      simp only [decide_eq_false (show ¬ (((nx + i) % l.length : Nat) : Int) < 0 by omega), decide_eq_false (show ¬ (((nx + i) % l.length : Nat) : Int) ≥ (l.length : Int) by omega), cond_false, rdx_at h1, Option.bind_some, cross_eq, hf, h3, Bool.not_true, bne_self_eq_false, Bool.not_false, cond_true]
      by_cases hi0 : i = 0
      · simp only [decide_eq_false (show ¬ (i : Int) > 0 by omega), cond_false]
        exact hih
      · have hi1 : i - 1 < ps.length := by omega
        have e6 : IntKind.wrap .i64 ((i : Int) - 1) = ((i - 1 : Nat) : Int) := wN (by omega) (by omega)
        have hg1 : ps[i - 1]? = some ps[i - 1] := List.getElem?_eq_getElem hi1
        have h5 := h4 _ (by omega) hg1
        rw [h2] at h5
        simp only [decide_eq_true (show (i : Int) > 0 by omega), cond_true, e6, idx_at hi1, Option.bind_some, hg1, decide_eq_false (show ¬ (fwdS g (a, b) (c, e)).1 < (ps[i - 1]).2.1 from by have : (ps[i - 1]).2.1 ≤ (fwdS g (a, b) (c, e)).1 := h5; omega), cond_false]
        exact hih
    · rw [h3]
      have hf : crossS (g.2.2.1, g.2.2.2.1) (g.1, g.2.1) (a, b) (c, e) = bwdS g (a, b) (c, e) := rfl
      have hk : k < l.length := by
        rcases Nat.lt_or_ge k l.length with hk | hk
        · exact hk
        · rw [List.getElem?_eq_none hk] at h2; cases h2
      simp only [decide_eq_false (show ¬ (k : Int) < 0 by omega), decide_eq_false (show ¬ (k : Int) ≥ (l.length : Int) by omega), cond_false, cond_true, decide_eq_false (show ¬ (ps.length : Int) > 1 by omega), decide_eq_false (show ¬ (i : Int) > 0 by omega), rdx_at h2, Option.bind_some, cross_eq, hf, h4, Bool.not_true, bne_self_eq_false]
      exact hih
theorem law4_0 (v : A4_0) (h : Dom4_0 v) : F4_0 v = some true := by
  obtain ⟨l, next, a, b, c, d⟩ := v
  have E : ∀ K, E4_0 K (l, (next, (a, (b, (c, d))))) = bif decide ((l.length : Int) > 100) then some true else
      (F10_0 (l, (next, ((a, b), (c, d))))).bind fun r =>
      bif decide (next < 0) then bif ((r.length : Int) == 0) then (F14_0 ()).bind fun s => some s else some false
      else bif decide (next ≥ (l.length : Int)) then bif ((r.length : Int) == 0) then (F14_0 ()).bind fun s => some s else some false
      else K ((l, (next, (0 : Int))), (r, (a, (b, (c, d))))) := fun _ => rfl
  refine (E (K4_0 1000)).trans ?_
  by_cases hl : (l.length : Int) > 100
  · rw [decide_eq_true hl, cond_true]
  · have hl' : l.length ≤ 100 := by omega
    have hp := pass_len l next (a, b) (c, d)
    rw [decide_eq_false hl, cond_false, p10_eq _ (by omega)]
    simp only [Option.bind_some, awake30]
    by_cases h0 : next < 0
    · have : passS l next (a, b) (c, d) = [] := if_neg (by omega)
      rw [decide_eq_true h0, cond_true, this]; rfl
    · rw [decide_eq_false h0, cond_false]
      by_cases h1 : next ≥ (l.length : Int)
      · have : passS l next (a, b) (c, d) = [] := if_neg (by omega)
        rw [decide_eq_true h1, cond_true, this]; rfl
      · rw [decide_eq_false h1, cond_false]
        obtain ⟨nx, rfl⟩ : ∃ nx : Nat, next = nx := ⟨next.toNat, by omega⟩
        exact k4_loop l hl' nx (by omega) a b c d _ 0 1000 (Nat.zero_add _) (by omega)

/- GateOnce -/
theorem once_eq (g : Gt) (p q : V2) : passS [g] 0 p q = if (fwdS g p q).2 = true then [((0 : Int), ((fwdS g p q).1, false))] else if (bwdS g p q).2 = true then [((0 : Int), ((bwdS g p q).1, true))] else [] := by
  have hc : 0 ≤ (fwdS g p q).1 := (cross_part _ _ _ _).1
  have e : passS [g] 0 p q = endS [g] 0 p q (rowS [g] 0 p q 1 0 0) := if_pos ⟨by omega, by simp⟩
  have r : rowS [g] 0 p q 1 0 0 = if (fwdS g p q).2 = true ∧ 0 ≤ (fwdS g p q).1 then [((0 : Int), ((fwdS g p q).1, false))] else [] := rfl
  rw [e, r]
  by_cases h : (fwdS g p q).2 = true
  · rw [if_pos ⟨h, hc⟩, if_pos h]; rfl
  · rw [if_neg (fun hh => h hh.1), if_neg h]; rfl
theorem ahead_of {a b p q : V2} (h : (crossS a b p q).2 = true) : Ahead a b p q := by
  unfold crossS at h
  split at h
  · assumption
  · cases h
theorem sides_of {a b p q : V2} (h : (crossS a b p q).2 = true) : ¬ sideS a b p > 0 ∧ sideS a b q > 0 := by
  obtain ⟨⟨ha, hb, hp, hq⟩, h1, h2, _⟩ := ahead_of h
  have e1 : sideS a b p = sign3 (areaS a b p) := if_pos ⟨ha, hb, hp⟩
  have e2 : sideS a b q = sign3 (areaS a b q) := if_pos ⟨ha, hb, hq⟩
  rw [e1, e2]
  refine ⟨of_decide_eq_false ?_, of_decide_eq_true ?_⟩
  · rw [sign3_gt]; exact decide_eq_false (by omega)
  · rw [sign3_gt]; exact decide_eq_true (by omega)
theorem k5K (n : Nat) (v) : K5_0 (n + 1) v = B5_0_5 (K5_0 n) v := rfl
theorem k5_loop (g : Gt) (l : List V2) (hl : l.length ≤ 100) : ∀ (d i n : Nat) (s : Int), i + d = l.length → 0 < i → d < n → (s > 0 → ∀ p, l[i - 1]? = some p → sideS (g.1, g.2.1) (g.2.2.1, g.2.2.2.1) p > 0) → K5_0 n ((l, (s, (i : Int))), g) = some true := by
  intro d
  induction d with
  | zero =>
    intro i n s h h0 hn hs
    obtain ⟨n, rfl⟩ : ∃ m, n = m + 1 := ⟨n - 1, by omega⟩
    rw [k5K]
    unfold B5_0_5
    simp only [show decide ((i : Int) < (l.length : Int)) = false from decide_eq_false (by omega), cond_false, awake30, Option.bind_some]
  | succ d ih =>
    intro i n s h h0 hn hs
    obtain ⟨n, rfl⟩ : ∃ m, n = m + 1 := ⟨n - 1, by omega⟩
    rw [k5K]
    unfold B5_0_5
    have hi : i < l.length := by omega
    have hi1 : i - 1 < l.length := by omega
    have hg : l[i]? = some l[i] := List.getElem?_eq_getElem hi
    have hg1 : l[i - 1]? = some l[i - 1] := List.getElem?_eq_getElem hi1
    have e5 : IntKind.wrap .i64 ((i : Int) + 1) = ((i + 1 : Nat) : Int) := wN (by omega) (by omega)
    have e6 : IntKind.wrap .i64 ((i : Int) - 1) = ((i - 1 : Nat) : Int) := wN (by omega) (by omega)
    have hih : ∀ s, (s > 0 → sideS (g.1, g.2.1) (g.2.2.1, g.2.2.2.1) l[i] > 0) → K5_0 n ((l, (s, ((i + 1 : Nat) : Int))), g) = some true := by
      intro s hs
      refine ih (i + 1) n s (by omega) (by omega) (by omega) (fun h0 p hp => ?_)
      rw [Nat.add_sub_cancel, hg] at hp
      cases hp
      exact hs h0
    have hs1 : s > 0 → sideS (g.1, g.2.1) (g.2.2.1, g.2.2.2.1) l[i - 1] > 0 := fun h => hs h _ hg1
    simp only [show decide ((i : Int) < (l.length : Int)) = true from decide_eq_true (by omega), cond_true, e6, rdx_at hg, rdx_at hg1, Option.bind_some, p10_eq [g] (by simp) 0, once_eq, e5, side_eq]
    generalize hQ : l[i] = q at hih ⊢
    generalize hP : l[i - 1] = p at hs1 ⊢
    have tail : (bif decide (sideS (g.1, g.2.1) (g.2.2.1, g.2.2.2.1) q ≤ 0) then K5_0 n ((l, ((0 : Int), ((i + 1 : Nat) : Int))), g) else K5_0 n ((l, (s, ((i + 1 : Nat) : Int))), g)) = some true := by
      by_cases hq : sideS (g.1, g.2.1) (g.2.2.1, g.2.2.2.1) q ≤ 0
      · rw [decide_eq_true hq, cond_true]; exact hih 0 (fun h => absurd h (by decide))
      · rw [decide_eq_false hq, cond_false]; exact hih s (fun _ => by omega)
    have i0 : idx 0 1 = some 0 := rfl
    by_cases hf : (fwdS g p q).2 = true
    · obtain ⟨h1, h2⟩ := sides_of hf
      simp only [if_pos hf, List.length_singleton, show (((1 : Nat) : Int) == 1) = true from rfl, cond_true, show idx 0 1 = some 0 from rfl, Option.bind_some, List.getElem?_cons_zero, show decide (((1 : Nat) : Int) > 1) = false from rfl, cond_false, Bool.not_false, decide_eq_false h1, decide_eq_false (show ¬ sideS (g.1, g.2.1) (g.2.2.1, g.2.2.2.1) q ≤ 0 by omega), decide_eq_false (show ¬ s > 0 from fun hh => h1 (hs1 hh))]
      exact hih 1 (fun _ => h2)
    · by_cases hb : (bwdS g p q).2 = true
      · simp only [if_neg hf, if_pos hb, List.length_singleton, show (((1 : Nat) : Int) == 1) = true from rfl, cond_true, show idx 0 1 = some 0 from rfl, Option.bind_some, List.getElem?_cons_zero, show decide (((1 : Nat) : Int) > 1) = false from rfl, cond_false, Bool.not_true]
        exact tail
      · simp only [if_neg hf, if_neg hb, List.length_nil, show (((0 : Nat) : Int) == 1) = false from rfl, cond_false, show decide (((0 : Nat) : Int) > 1) = false from rfl]
        exact tail
theorem law5_0 (v : A5_0) (h : Dom5_0 v) : F5_0 v = some true := by
  obtain ⟨g, l⟩ := v
  have E : ∀ K, E5_0 K (g, l) = bif decide ((l.length : Int) > 100) then some true else K ((l, ((0 : Int), (1 : Int))), g) := fun _ => rfl
  refine (E (K5_0 1000)).trans ?_
  by_cases hl : (l.length : Int) > 100
  · rw [decide_eq_true hl, cond_true]
  · rw [decide_eq_false hl, cond_false]
    by_cases h0 : l.length = 0
    · obtain rfl : l = [] := List.eq_nil_of_length_eq_zero h0
      refine (k5K 999 _).trans ?_
      unfold B5_0_5
      simp only [List.length_nil, show decide ((1 : Int) < ((0 : Nat) : Int)) = false from rfl, cond_false, awake30, Option.bind_some]
    · exact k5_loop g l (by omega) (l.length - 1) 1 1000 0 (by omega) (by omega) (by omega) (fun h => absurd h (by decide))

/- GateNext -/
theorem k6K (n : Nat) (v) : K6_0 (n + 1) v = B6_0_8 (K6_0 n) v := rfl
theorem k6_loop (l : List Gt) (hl : l.length ≤ 100) (nx : Nat) (hnx : nx < l.length) (ps : List Ps) (hp : ps.length ≤ 200) : ∀ (d i n : Nat), i + d = ps.length → d < n → K6_0 n (l, ((nx : Int), (ps, ((((nx + rightsS ps) % l.length : Nat) : Int), (((rightsS (ps.take i) : Nat) : Int), (i : Int)))))) = some true := by
  intro d
  induction d with
  | zero =>
    intro i n h hn
    obtain ⟨n, rfl⟩ : ∃ m, n = m + 1 := ⟨n - 1, by omega⟩
    rw [k6K]
    unfold B6_0_8
    have hr := rights_le ps
    have hm : (nx + rightsS ps) % l.length < l.length := Nat.mod_lt _ (by omega)
    have e1 : IntKind.wrap .i64 ((((nx + rightsS ps) % l.length : Nat) : Int) - (nx : Int)) = (((nx + rightsS ps) % l.length : Nat) : Int) - (nx : Int) := w64 (by omega)
    have e2 : IntKind.wrap .i64 ((((nx + rightsS ps) % l.length : Nat) : Int) - (nx : Int) - ((rightsS ps : Nat) : Int)) = (((nx + rightsS ps) % l.length : Nat) : Int) - (nx : Int) - ((rightsS ps : Nat) : Int) := w64 (by omega)
    have e3 : Int.tmod ((((nx + rightsS ps) % l.length : Nat) : Int) - (nx : Int) - ((rightsS ps : Nat) : Int)) (l.length : Int) = 0 := by
      have hd := Nat.mod_add_div (nx + rightsS ps) l.length
      have hz : (((nx + rightsS ps) % l.length : Nat) : Int) - (nx : Int) - ((rightsS ps : Nat) : Int) = (l.length : Int) * (-(((nx + rightsS ps) / l.length : Nat) : Int)) := by
        have : (((nx + rightsS ps) % l.length : Nat) : Int) + (l.length : Int) * (((nx + rightsS ps) / l.length : Nat) : Int) = ((nx + rightsS ps : Nat) : Int) := by rw [← Int.natCast_mul, ← Int.natCast_add, hd]
        rw [Int.mul_neg]
        omega
      rw [hz, Int.mul_tmod_right]
    simp only [show decide ((i : Int) < (ps.length : Int)) = false from decide_eq_false (by omega), cond_false, List.take_of_length_le (show ps.length ≤ i by omega), decide_eq_true (show (((nx + rightsS ps) % l.length : Nat) : Int) ≥ 0 by omega), decide_eq_true (show (((nx + rightsS ps) % l.length : Nat) : Int) < (l.length : Int) by omega), cond_true, e1, e2, e3, chk_ne (show l.length ≠ 0 by omega), Option.bind_some, beq_self_eq_true, awake30]
  | succ d ih =>
    intro i n h hn
    obtain ⟨n, rfl⟩ : ∃ m, n = m + 1 := ⟨n - 1, by omega⟩
    rw [k6K]
    unfold B6_0_8
    have hi : i < ps.length := by omega
    have hg : ps[i]? = some ps[i] := List.getElem?_eq_getElem hi
    have hr := rights_le (ps.take i)
    rw [List.length_take] at hr
    have e5 : IntKind.wrap .i64 ((i : Int) + 1) = ((i + 1 : Nat) : Int) := wN (by omega) (by omega)
    have e6 : IntKind.wrap .i64 (((rightsS (ps.take i) : Nat) : Int) + 1) = ((rightsS (ps.take i) + 1 : Nat) : Int) := wN (by omega) (by omega)
    have hs := rights_step ps i hi
    simp only [show decide ((i : Int) < (ps.length : Int)) = true from decide_eq_true (by omega), cond_true, rdx_at hg, Option.bind_some, e5, e6]
    have := ih (i + 1) n (by omega) (by omega)
    rw [hs] at this
    cases hb : ps[i].2.2 with
    | false => rw [hb] at this; simp only [Bool.not_false, cond_true]; exact this
    | true => rw [hb] at this; simp only [Bool.not_true, cond_false]; exact this
theorem law6_0 (v : A6_0) (h : Dom6_0 v) : F6_0 v = some true := by
  obtain ⟨l, next, ps⟩ := v
  have E : ∀ K, E6_0 K (l, (next, ps)) = bif decide ((l.length : Int) > 100) then some true else
      bif decide ((ps.length : Int) > 200) then some true else
      (F12_0 (l, (next, ps))).bind fun r =>
      bif decide (next < 0) then bif (r == next) then (F14_0 ()).bind fun s => some s else some false
      else bif decide (next ≥ (l.length : Int)) then bif (r == next) then (F14_0 ()).bind fun s => some s else some false
      else K (l, (next, (ps, (r, ((0 : Int), (0 : Int)))))) := fun _ => rfl
  refine (E (K6_0 1000)).trans ?_
  by_cases hl : (l.length : Int) > 100
  · rw [decide_eq_true hl, cond_true]
  · rw [decide_eq_false hl, cond_false]
    by_cases hp : (ps.length : Int) > 200
    · rw [decide_eq_true hp, cond_true]
    · rw [decide_eq_false hp, cond_false, n12_eq _ (by omega) _ _ (by omega)]
      simp only [Option.bind_some, awake30]
      by_cases h0 : next < 0
      · have : nextS l next ps = next := if_neg (by omega)
        rw [decide_eq_true h0, cond_true, this, beq_self_eq_true]; rfl
      · rw [decide_eq_false h0, cond_false]
        by_cases h1 : next ≥ (l.length : Int)
        · have : nextS l next ps = next := if_neg (by omega)
          rw [decide_eq_true h1, cond_true, this, beq_self_eq_true]; rfl
        · rw [decide_eq_false h1, cond_false]
          obtain ⟨nx, rfl⟩ : ∃ nx : Nat, next = nx := ⟨next.toNat, by omega⟩
          have e : nextS l (nx : Int) ps = (((nx + rightsS ps) % l.length : Nat) : Int) := if_pos ⟨by omega, by omega⟩
          rw [e]
          exact k6_loop l (by omega) nx (by omega) ps (by omega) ps.length 0 1000 (by omega) (by omega)
end Go.Proofs.Ytdjjinfpfjoniaa.Ev
