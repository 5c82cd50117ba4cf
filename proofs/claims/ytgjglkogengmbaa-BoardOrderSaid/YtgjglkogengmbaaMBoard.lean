/- The board's order. -/
import Derived.Test.YtgjglkogengmbaaMSort3B
set_option linter.unusedVariables false
set_option linter.unusedSimpArgs false
namespace Go.Proofs.Ytgjglkogengmbaa.Ev
open Go

abbrev LapT : Type := Int × Bool
theorem srd {α : Type} {l : List α} {i : Nat} (h : i < l.length) : rdx l (i : Int) = some l[i] := by
  unfold rdx
  rw [decide_eq_true (by omega)]
  simp [List.getElem?_eq_getElem h]
theorem sidx {i n : Nat} (h : i < n) : idx (i : Int) n = some i := by unfold idx; rw [decide_eq_true (by omega)]; simp
/-! ### The best lap -/
theorem mnK (n : Nat) (v) : K49_1 (n + 1) v = B49_1_5 (K49_1 n) v := rfl
theorem min_loop (L : List LapT) (out : List Int) (hl : L.length ≤ 100) (ho : out.length ≤ 100) (hv : ∀ x ∈ out, ∃ k : Nat, ∃ h : k < L.length, x = (k : Int)) : ∀ (d i f m : Nat) (hm : m < L.length), i + d = out.length → d < f → (m : Int) ∈ out → (∀ j k : Nat, ∀ hj : j < out.length, ∀ hk : k < L.length, j < i → out[j] = (k : Int) → L[m].1 ≤ L[k].1) →
    ∃ r : Nat, ∃ hr : r < L.length, (r : Int) ∈ out ∧ (∀ k : Nat, ∀ hk : k < L.length, (k : Int) ∈ out → L[r].1 ≤ L[k].1) ∧ K49_1 f (((m : Int), (i : Int)), (L, out)) = some ((r : Int), (L, out)) := by
  intro d
  induction d with
  | zero =>
    intro i f m hm hi hf h1 h2
    obtain ⟨f, rfl⟩ : ∃ q, f = q + 1 := ⟨f - 1, by omega⟩
    refine ⟨m, hm, h1, fun k hk hko => ?_, ?_⟩
    · obtain ⟨j, hj, e⟩ := List.mem_iff_getElem.1 hko
      exact h2 j k hj hk (by omega) e
    · refine (mnK _ _).trans ?_
      unfold B49_1_5
      rw [decide_eq_false (by simp only []; omega), cond_false]
  | succ d ih =>
    intro i f m hm hi hf h1 h2
    obtain ⟨f, rfl⟩ : ∃ q, f = q + 1 := ⟨f - 1, by omega⟩
    have hil : i < out.length := by omega
    obtain ⟨k, hk, ek⟩ := hv _ (List.getElem_mem hil)
    have w1 : IntKind.wrap .i64 ((i : Int) + 1) = ((i + 1 : Nat) : Int) := by rw [w64 (by omega)]; omega
    have st : B49_1_5 (K49_1 f) (((m : Int), (i : Int)), (L, out)) = bif decide (c3 L[k].1 L[m].1 < 0) then K49_1 f (((k : Int), ((i + 1 : Nat) : Int)), (L, out)) else K49_1 f (((m : Int), ((i + 1 : Nat) : Int)), (L, out)) := by
      unfold B49_1_5 F50_0
      rw [decide_eq_true (by simp only []; omega), cond_true]
      simp only [sidx hil, bndS, List.getElem?_eq_getElem hil, ek, srd hk, srd hm, cmpT, w1]
    by_cases hc : c3 L[k].1 L[m].1 < 0
    · have hlt : L[k].1 < L[m].1 := by unfold c3 at hc; split at hc <;> (try split at hc) <;> omega
      obtain ⟨r, hr, g1, g2, g3⟩ := ih (i + 1) f k hk (by omega) (by omega) (by rw [← ek]; exact List.getElem_mem hil) (fun j k' hj hk' hji he => by
        by_cases e : j = i
        · subst e
          rw [ek] at he
          have : k = k' := by omega
          subst this; exact Int.le_refl _
        · have := h2 j k' hj hk' (by omega) he; omega)
      refine ⟨r, hr, g1, g2, (mnK _ _).trans (st.trans ?_)⟩
      rw [decide_eq_true hc, cond_true]; exact g3
    · have hle : L[m].1 ≤ L[k].1 := by unfold c3 at hc; split at hc <;> (try split at hc) <;> omega
      obtain ⟨r, hr, g1, g2, g3⟩ := ih (i + 1) f m hm (by omega) (by omega) h1 (fun j k' hj hk' hji he => by
        by_cases e : j = i
        · subst e
          rw [ek] at he
          have : k = k' := by omega
          subst this; exact hle
        · exact h2 j k' hj hk' (by omega) he)
      refine ⟨r, hr, g1, g2, (mnK _ _).trans (st.trans ?_)⟩
      rw [decide_eq_false hc, cond_false]; exact g3
def BestOk (L : List LapT) (r : Int) (ok : Bool) : Prop := (ok = true → ∃ k : Nat, ∃ h : k < L.length, r = (k : Int) ∧ L[k].2 = true ∧ ∀ x ∈ L, x.2 = true → L[k].1 ≤ x.1) ∧ (ok = false → ∀ x ∈ L, x.2 = false)
theorem bsK (n : Nat) (v) : K28_0 (n + 1) v = B28_0_3 (K28_0 n) v := rfl
theorem best_loop (L : List LapT) (hl : L.length ≤ 100) : ∀ (d i f : Nat) (out : List Int), i + d = L.length → d < f → (∀ x ∈ out, ∃ k : Nat, ∃ h : k < L.length, x = (k : Int) ∧ L[k].2 = true) → (∀ k : Nat, ∀ h : k < L.length, k < i → L[k].2 = true → (k : Int) ∈ out) → out.length ≤ i →
    ∃ r ok, K28_0 f ((L, ((L.length : Int), (i : Int))), (out, L)) = some (r, ok) ∧ BestOk L r ok := by
  intro d
  induction d with
  | zero =>
    intro i f out hi hf h1 h2 h3
    obtain ⟨f, rfl⟩ : ∃ q, f = q + 1 := ⟨f - 1, by omega⟩
    by_cases h0 : out = []
    · subst h0
      refine ⟨0, false, ?_, ⟨fun h => (by cases h), fun _ x hx => ?_⟩⟩
      · refine (bsK _ _).trans ?_
        unfold B28_0_3
        rw [decide_eq_false (by simp only []; omega), cond_false]
        rfl
      · obtain ⟨k, hk, rfl⟩ := List.mem_iff_getElem.1 hx
        cases hb : L[k].2 with
        | false => rfl
        | true => have := h2 k hk (by omega) hb; cases this
    · have hpos : 0 < out.length := by cases out; exact absurd rfl h0; simp
      obtain ⟨k0, hk0, e0, _⟩ := h1 _ (List.getElem_mem hpos)
      obtain ⟨r, hr, g1, g2, g3⟩ := min_loop L out hl (by omega) (fun x hx => by obtain ⟨k, h, e, _⟩ := h1 x hx; exact ⟨k, h, e⟩) (out.length - 1) 1 1000 k0 hk0 (by omega) (by omega) (by rw [← e0]; exact List.getElem_mem hpos) (fun j k hj hk hj1 he => by
        obtain rfl : j = 0 := by omega
        rw [e0] at he
        have : k0 = k := by omega
        subst this; exact Int.le_refl _)
      obtain ⟨kr, hkr, ekr, hvr⟩ := h1 _ g1
      have : kr = r := by omega
      subst this
      refine ⟨(kr : Int), true, ?_, ⟨fun _ => ⟨kr, hkr, rfl, hvr, fun x hx hv => ?_⟩, fun h => (by cases h)⟩⟩
      · refine (bsK _ _).trans ?_
        unfold B28_0_3
        rw [decide_eq_false (by simp only []; omega), cond_false]
        simp only []
        rw [show ((out.length : Int) == 0) = false from beq_eq_false_iff_ne.2 (by omega), cond_false]
        have hF : F49_1 (L, out) = some ((kr : Int), (L, out)) := by
          have E : ∀ K, E49_1 K (L, out) = K (((k0 : Int), (1 : Int)), (L, out)) := by
            intro K
            unfold E49_1
            simp only []
            rw [decide_eq_false (by omega), cond_false, show idx (0 : Int) out.length = some 0 from sidx hpos, bndS, List.getElem?_eq_getElem hpos, bndS, e0]
          exact (E _).trans g3
        rw [hF, bndS]
      · obtain ⟨k, hk, rfl⟩ := List.mem_iff_getElem.1 hx
        exact g2 k hk (h2 k hk (by omega) hv)
  | succ d ih =>
    intro i f out hi hf h1 h2 h3
    obtain ⟨f, rfl⟩ : ∃ q, f = q + 1 := ⟨f - 1, by omega⟩
    have hil : i < L.length := by omega
    have w1 : IntKind.wrap .i64 ((i : Int) + 1) = ((i + 1 : Nat) : Int) := by rw [w64 (by omega)]; omega
    cases hb : L[i].2 with
    | true =>
      obtain ⟨r, ok, g1, g2⟩ := ih (i + 1) f (out ++ [(i : Int)]) (by omega) (by omega) (fun x hx => by
        rcases List.mem_append.1 hx with h | h
        · exact h1 x h
        · simp at h; subst h; exact ⟨i, hil, rfl, hb⟩) (fun k hk hki hv => by
        by_cases e : k = i
        · subst e; simp
        · exact List.mem_append.2 (.inl (h2 k hk (by omega) hv))) (by simp; omega)
      refine ⟨r, ok, ?_, g2⟩
      refine (bsK _ _).trans ?_
      unfold B28_0_3
      rw [decide_eq_true (by simp only []; omega), cond_true]
      simp only [srd hil, bndS, hb, cond_true]
      rw [decide_eq_true (show (out.length + ([(i : Int)] : List Int).length) * 8 ≤ 140737488355328 by simp; omega)]
      simp only [chk, bndS, w1]
      exact g1
    | false =>
      obtain ⟨r, ok, g1, g2⟩ := ih (i + 1) f out (by omega) (by omega) h1 (fun k hk hki hv => by
        by_cases e : k = i
        · subst e; rw [hb] at hv; cases hv
        · exact h2 k hk (by omega) hv) (by omega)
      refine ⟨r, ok, ?_, g2⟩
      refine (bsK _ _).trans ?_
      unfold B28_0_3
      rw [decide_eq_true (by simp only []; omega), cond_true]
      simp only [srd hil, bndS, hb, cond_false, w1]
      exact g1
def bestI (L : List LapT) : Int × Bool := (F28_0 L).getD (0, false)
theorem best_p (L : List LapT) (hl : L.length ≤ 100) : F28_0 L = some (bestI L) ∧ BestOk L (bestI L).1 (bestI L).2 := by
  obtain ⟨r, ok, g1, g2⟩ := best_loop L hl L.length 0 1000 [] (by omega) (by omega) (fun x hx => by cases hx) (fun k hk h => by omega) (by simp)
  have g1' : F28_0 L = some (r, ok) := g1
  have e : bestI L = (r, ok) := by unfold bestI; rw [g1']; rfl
  rw [e]; exact ⟨g1', g2⟩
def tE (e : EnT) : Int := if (bestI e.2.1).2 = true then (e.2.1.getD (bestI e.2.1).1.toNat (0, false)).1 else 0
def okE (e : EnT) : Bool := (bestI e.2.1).2
theorem bestE (e : EnT) (hl : e.2.1.length ≤ 100) : F14_0 e = some (tE e, okE e) := by
  obtain ⟨g1, g2, g3⟩ := best_p e.2.1 hl
  unfold F14_0 tE okE
  rw [g1, bndS]
  cases hb : (bestI e.2.1).2 with
  | true =>
    obtain ⟨k, hk, ek, _, _⟩ := g2 hb
    simp only [cond_true, ek, srd hk, bndS, if_true, Int.toNat_natCast, List.getD, List.getElem?_eq_getElem hk, Option.getD_some]
  | false => simp
theorem okE_min (e : EnT) (hl : e.2.1.length ≤ 100) (h : okE e = true) : ∃ k : Nat, ∃ hk : k < e.2.1.length, (bestI e.2.1).1 = (k : Int) ∧ e.2.1[k].2 = true ∧ tE e = e.2.1[k].1 ∧ ∀ x ∈ e.2.1, x.2 = true → tE e ≤ x.1 := by
  obtain ⟨g1, g2, g3⟩ := best_p e.2.1 hl
  obtain ⟨k, hk, ek, hv, hm⟩ := g2 h
  have et : tE e = e.2.1[k].1 := by
    unfold tE
    rw [if_pos (show (bestI e.2.1).2 = true from h), ek]
    simp [List.getD, List.getElem?_eq_getElem hk]
  exact ⟨k, hk, ek, hv, et, fun x hx hxv => by rw [et]; exact hm x hx hxv⟩
theorem okE_no (e : EnT) (hl : e.2.1.length ≤ 100) (h : okE e = false) : ∀ x ∈ e.2.1, x.2 = false := (best_p e.2.1 hl).2.2 h
/-! ### The rank -/
def tL (l : List EnT) : List Int := l.map tE
structure OutR (l : List EnT) (i : Nat) (out : List Int) : Prop where
  len : out.length = (l.take i).countP okE
  mem : ∀ x ∈ out, ∃ k : Nat, ∃ h : k < l.length, k < i ∧ x = (k : Int) ∧ okE l[k] = true
  all : ∀ k : Nat, ∀ h : k < l.length, k < i → okE l[k] = true → (k : Int) ∈ out
  up : out.Pairwise (· < ·)
  le : out.length ≤ i
structure Rk (l : List EnT) (z : List Int) : Prop where
  len : z.length = l.countP okE
  mem : ∀ x ∈ z, ∃ k : Nat, ∃ h : k < l.length, x = (k : Int) ∧ okE l[k] = true
  all : ∀ k : Nat, ∀ h : k < l.length, okE l[k] = true → (k : Int) ∈ z
  ne : z.Pairwise (· ≠ ·)
  srt : ∀ i j : Nat, ∀ hi : i < z.length, ∀ hj : j < z.length, ∀ a b : Nat, ∀ ha : a < l.length, ∀ hb : b < l.length, i ≤ j → z[i] = (a : Int) → z[j] = (b : Int) → tE l[a] ≤ tE l[b]
  le : z.length ≤ l.length
theorem rkK (n : Nat) (v) : K15_0 (n + 1) v = B15_0_4 (K15_0 n) v := rfl
theorem rank_fin (l : List EnT) (hn : l.length ≤ 50) (out : List Int) (ho : OutR l l.length out) : ∃ z, Rk l z ∧ ((F29_0 (l, (tL l, out))).bind fun r953 => some (r953.2.1)) = some z := by
  have tl : (tL l).length = l.length := List.length_map _
  have ok : Okl (l, tL l) out := by
    intro x hx
    obtain ⟨k, hk, _, rfl, _⟩ := ho.mem x hx
    exact ⟨Int.natCast_nonneg k, by rw [Int.toNat_natCast]; show k < (tL l).length; omega, by rw [Int.toNat_natCast]; exact hk⟩
  obtain ⟨z, p1, p2, p3⟩ := stableS (l, tL l) out (by have := ho.le; omega) ok
  refine ⟨z, ⟨?_, ?_, ?_, ?_, ?_, ?_⟩, ?_⟩
  · rw [p1.length_eq, ho.len, List.take_of_length_le (Nat.le_refl _)]
  · intro x hx
    obtain ⟨k, h, _, e, g⟩ := ho.mem x (p1.subset hx)
    exact ⟨k, h, e, g⟩
  · intro k h g
    exact p1.symm.subset (ho.all k h h g)
  · have n0 : out.Pairwise (· ≠ ·) := ho.up.imp (fun h => by omega)
    exact (List.Perm.pairwise_iff (fun h => fun e => h e.symm) p1).2 n0
  · intro i j hi hj a b ha hb hij e1 e2
    have := srt_idx p2 hij hj
    have g1 : z.getD i dz = (a : Int) := by simp [List.getD, List.getElem?_eq_getElem hi, e1]
    have g2 : z.getD j dz = (b : Int) := by simp [List.getD, List.getElem?_eq_getElem hj, e2]
    rw [g1, g2] at this
    have h2 : ¬ cmpv (l, tL l) (b : Int) (a : Int) < 0 := this
    rw [cmp_key] at h2
    unfold lex bOf at h2
    have ga : (tL l).getD ((a : Int)).toNat 0 = tE l[a] := by simp [tL, List.getD, List.getElem?_eq_getElem ha]
    have gb : (tL l).getD ((b : Int)).toNat 0 = tE l[b] := by simp [tL, List.getD, List.getElem?_eq_getElem hb]
    simp only [ga, gb] at h2
    omega
  · rw [p1.length_eq]; exact ho.le
  · unfold F29_0
    simp only [TT, SS] at p3
    simp only []
    rw [p3, bndS, bndS]
theorem rank_loop (l : List EnT) (hn : l.length ≤ 50) (hl : ∀ e ∈ l, e.2.1.length ≤ 100) : ∀ (d i f : Nat) (out : List Int), i + d = l.length → d < f → OutR l i out →
    ∃ z, Rk l z ∧ K15_0 f ((l, ((l.length : Int), (i : Int))), ((tL l).take i ++ List.replicate d (0 : Int), (out, l))) = some z := by
  have tl : (tL l).length = l.length := List.length_map _
  intro d
  induction d with
  | zero =>
    intro i f out hi hf ho
    obtain ⟨f, rfl⟩ : ∃ q, f = q + 1 := ⟨f - 1, by omega⟩
    obtain rfl : i = l.length := by omega
    obtain ⟨z, h1, h2⟩ := rank_fin l hn out ho
    refine ⟨z, h1, ?_⟩
    refine (rkK _ _).trans ?_
    unfold B15_0_4
    rw [decide_eq_false (by simp only []; omega), cond_false]
    simp only [List.replicate_zero, List.append_nil, List.take_of_length_le (show (tL l).length ≤ l.length by omega)]
    exact h2
  | succ d ih =>
    intro i f out hi hf ho
    obtain ⟨f, rfl⟩ : ∃ q, f = q + 1 := ⟨f - 1, by omega⟩
    have hil : i < l.length := by omega
    have b := bestE l[i] (hl _ (List.getElem_mem hil))
    have w1 : IntKind.wrap .i64 ((i : Int) + 1) = ((i + 1 : Nat) : Int) := by rw [w64 (by omega)]; omega
    have tk : (tL l).take i ++ List.replicate (d + 1) (0 : Int) = (tL l).take i ++ (0 : Int) :: List.replicate d (0 : Int) := rfl
    have lt1 : ((tL l).take i).length = i := by simp [tl]; omega
    have ti : (tL l)[i]? = some (tE l[i]) := by simp [tL, List.getElem?_eq_getElem hil]
    have set : ((tL l).take i ++ (0 : Int) :: List.replicate d (0 : Int)).set i (tE l[i]) = (tL l).take (i + 1) ++ List.replicate d (0 : Int) := by
      have := set1 ((tL l).take i) (0 : Int) (tE l[i]) (List.replicate d (0 : Int))
      rw [lt1] at this
      rw [this, List.take_add_one, ti]
      simp
    have ll : ((tL l).take i ++ (0 : Int) :: List.replicate d (0 : Int)).length = l.length := by simp [lt1]; omega
    have gg : ((tL l).take i ++ (0 : Int) :: List.replicate d (0 : Int))[i]? = some (0 : Int) := by
      have := at1 ((tL l).take i) (0 : Int) (List.replicate d (0 : Int))
      rwa [lt1] at this
    have tki : l.take (i + 1) = l.take i ++ [l[i]] := by rw [List.take_add_one, List.getElem?_eq_getElem hil]; rfl
    cases hb : okE l[i] with
    | true =>
      have ho' : OutR l (i + 1) (out ++ [(i : Int)]) := by
        refine ⟨?_, ?_, ?_, ?_, by have := ho.le; simp; omega⟩
        · rw [tki, List.countP_append, List.length_append, ho.len]; simp [hb]
        · intro x hx
          rcases List.mem_append.1 hx with h | h
          · obtain ⟨k, a, c, e, g⟩ := ho.mem x h; exact ⟨k, a, by omega, e, g⟩
          · simp at h; subst h; exact ⟨i, hil, by omega, rfl, hb⟩
        · intro k hk hki hv
          by_cases e : k = i
          · subst e; simp
          · exact List.mem_append.2 (.inl (ho.all k hk (by omega) hv))
        · refine List.pairwise_append.2 ⟨ho.up, List.pairwise_singleton _ _, ?_⟩
          intro a ha c hc
          simp at hc; subst hc
          obtain ⟨k, _, c, e, _⟩ := ho.mem a ha
          omega
      obtain ⟨z, h1, h2⟩ := ih (i + 1) f _ (by omega) (by omega) ho'
      refine ⟨z, h1, ?_⟩
      rw [tk]
      refine (rkK _ _).trans ?_
      unfold B15_0_4
      rw [decide_eq_true (by simp only []; omega), cond_true]
      simp only [srd hil, bndS]
      rw [b, bndS]
      simp only [ll, sidx hil, bndS, gg, set, hb, cond_true]
      rw [decide_eq_true (show (out.length + ([(i : Int)] : List Int).length) * 8 ≤ 140737488355328 by have := ho.le; simp; omega)]
      simp only [chk, bndS, w1]
      exact h2
    | false =>
      have ho' : OutR l (i + 1) out := by
        refine ⟨?_, ?_, ?_, ho.up, by have := ho.le; omega⟩
        · rw [tki, List.countP_append, ho.len]; simp [hb]
        · intro x hx; obtain ⟨k, a, c, e, g⟩ := ho.mem x hx; exact ⟨k, a, by omega, e, g⟩
        · intro k hk hki hv
          by_cases e : k = i
          · subst e; rw [hb] at hv; cases hv
          · exact ho.all k hk (by omega) hv
      obtain ⟨z, h1, h2⟩ := ih (i + 1) f _ (by omega) (by omega) ho'
      refine ⟨z, h1, ?_⟩
      rw [tk]
      refine (rkK _ _).trans ?_
      unfold B15_0_4
      rw [decide_eq_true (by simp only []; omega), cond_true]
      simp only [srd hil, bndS]
      rw [b, bndS]
      simp only [ll, sidx hil, bndS, gg, set, hb, cond_false, w1]
      exact h2
theorem rank_p (l : List EnT) (hn : l.length ≤ 50) (hl : ∀ e ∈ l, e.2.1.length ≤ 100) : ∃ z, Rk l z ∧ F15_0 l = some z := by
  have E : ∀ fu, 900 < fu → ∃ z, Rk l z ∧ E15_0 (K15_0 fu) l = some z := by
    intro fu hfu
    obtain ⟨z, h1, h2⟩ := rank_loop l hn hl l.length 0 fu [] (by omega) (by omega) ⟨by simp, fun x hx => (by cases hx), fun k hk h => (by omega), List.Pairwise.nil, by simp⟩
    refine ⟨z, h1, ?_⟩
    unfold E15_0
    rw [decide_eq_true (by omega)]
    simp only [chk, bndS, Int.toNat_natCast]
    exact h2
  exact E 1000 (by decide)
end Go.Proofs.Ytgjglkogengmbaa.Ev
