/- The board's order: the fastest lap, the gaps, and the law. -/
import Derived.Test.YtgjglkogengmbaaMBoard
set_option linter.unusedVariables false
set_option linter.unusedSimpArgs false
namespace Go.Proofs.Ytgjglkogengmbaa.Ev
open Go

theorem awake43 : F17_0 () = some true := by kernel_rfl
def FewB (l : List EnT) : Prop := l.length ≤ 50 ∧ ∀ e ∈ l, e.2.1.length ≤ 100 ∧ ∀ x ∈ e.2.1, -18014398509481984 ≤ x.1 ∧ x.1 ≤ 18014398509481984
/-! ### Few -/
theorem near_v (n : Int) : F48_0 n = some (decide (-18014398509481984 ≤ n ∧ n ≤ 18014398509481984)) := by
  unfold F48_0
  by_cases h : n ≤ 18014398509481984
  · rw [decide_eq_true h, cond_true]
    congr 1
    by_cases h2 : n ≥ -18014398509481984
    · rw [decide_eq_true h2, decide_eq_true (by omega)]
    · rw [decide_eq_false h2, decide_eq_false (by omega)]
  · rw [decide_eq_false h, cond_false, decide_eq_false (by omega)]
theorem tmK1 (n : Nat) (v) : (K27_0 (n + 1)).1 v = B27_0_2 (K27_0 n) v := rfl
theorem tmK2 (n : Nat) (v) : (K27_0 (n + 1)).2 v = B27_0_7 (K27_0 n) v := rfl
theorem tm2 (e : EnT) (hl : e.2.2.length ≤ 300) : ∀ (d i f : Nat), i + d = e.2.2.length → d < f → ∃ b, (K27_0 f).2 ((i : Int), e) = some b := by
  intro d
  induction d with
  | zero =>
    intro i f hi hf
    obtain ⟨f, rfl⟩ : ∃ q, f = q + 1 := ⟨f - 1, by omega⟩
    refine ⟨true, (tmK2 _ _).trans ?_⟩
    unfold B27_0_7
    rw [decide_eq_false (by simp only []; omega), cond_false]
  | succ d ih =>
    intro i f hi hf
    obtain ⟨f, rfl⟩ : ∃ q, f = q + 1 := ⟨f - 1, by omega⟩
    have hil : i < e.2.2.length := by omega
    obtain ⟨b, hb⟩ := ih (i + 1) f (by omega) (by omega)
    have st : (K27_0 (f + 1)).2 ((i : Int), e) = bif !(decide (-18014398509481984 ≤ e.2.2[i] ∧ e.2.2[i] ≤ 18014398509481984)) then some false else (K27_0 f).2 (((i + 1 : Nat) : Int), e) := by
      refine (tmK2 _ _).trans ?_
      unfold B27_0_7
      rw [decide_eq_true (by simp only []; omega), cond_true]
      simp only [srd hil, bndS, near_v]
      rw [w64 (by omega)]
      rfl
    rw [st]
    cases decide (-18014398509481984 ≤ e.2.2[i] ∧ e.2.2[i] ≤ 18014398509481984) with
    | false => exact ⟨false, rfl⟩
    | true => exact ⟨b, hb⟩
theorem tm1 (e : EnT) (hk : e.2.1.length ≤ 100) (hl : e.2.2.length ≤ 300) : ∀ (d i f : Nat), i + d = e.2.1.length → d + 400 < f → ∃ b, (K27_0 f).1 ((i : Int), e) = some b ∧ (b = true → ∀ k (h : k < e.2.1.length), i ≤ k → -18014398509481984 ≤ e.2.1[k].1 ∧ e.2.1[k].1 ≤ 18014398509481984) := by
  intro d
  induction d with
  | zero =>
    intro i f hi hf
    obtain ⟨f, rfl⟩ : ∃ q, f = q + 1 := ⟨f - 1, by omega⟩
    obtain ⟨b, hb⟩ := tm2 e hl e.2.2.length 0 f (by omega) (by omega)
    refine ⟨b, ?_, fun _ k h hk => by omega⟩
    refine (tmK1 _ _).trans ?_
    unfold B27_0_2
    rw [decide_eq_false (by simp only []; omega), cond_false]
    exact hb
  | succ d ih =>
    intro i f hi hf
    obtain ⟨f, rfl⟩ : ∃ q, f = q + 1 := ⟨f - 1, by omega⟩
    have hil : i < e.2.1.length := by omega
    obtain ⟨b, hb, hp⟩ := ih (i + 1) f (by omega) (by omega)
    have st : (K27_0 (f + 1)).1 ((i : Int), e) = bif !(decide (-18014398509481984 ≤ e.2.1[i].1 ∧ e.2.1[i].1 ≤ 18014398509481984)) then some false else (K27_0 f).1 (((i + 1 : Nat) : Int), e) := by
      refine (tmK1 _ _).trans ?_
      unfold B27_0_2
      rw [decide_eq_true (by simp only []; omega), cond_true]
      simp only [srd hil, bndS, near_v]
      rw [w64 (by omega)]
      rfl
    rw [st]
    by_cases hd : -18014398509481984 ≤ e.2.1[i].1 ∧ e.2.1[i].1 ≤ 18014398509481984
    · rw [decide_eq_true hd]
      refine ⟨b, hb, fun h k hk' hik => ?_⟩
      by_cases ek : k = i
      · subst ek; exact hd
      · exact hp h k hk' (by omega)
    · rw [decide_eq_false hd]
      exact ⟨false, rfl, fun h => by cases h⟩
theorem tm_p (e : EnT) (hk : e.2.1.length ≤ 100) (hl : e.2.2.length ≤ 300) : ∃ b, F27_0 e = some b ∧ (b = true → ∀ x ∈ e.2.1, -18014398509481984 ≤ x.1 ∧ x.1 ≤ 18014398509481984) := by
  obtain ⟨b, h1, h2⟩ := tm1 e hk hl e.2.1.length 0 1000 (by omega) (by omega)
  refine ⟨b, h1, fun h x hx => ?_⟩
  obtain ⟨k, hk', rfl⟩ := List.mem_iff_getElem.1 hx
  exact h2 h k hk' (Nat.zero_le _)
theorem fwbK (n : Nat) (v) : K12_0 (n + 1) v = B12_0_2 (K12_0 n) v := rfl
theorem few_loop (l : List EnT) : ∀ (d i f : Nat), i + d = 50 → d < f → (∀ k (hk : k < l.length), k < i → l[k].2.1.length ≤ 100 ∧ ∀ x ∈ l[k].2.1, -18014398509481984 ≤ x.1 ∧ x.1 ≤ 18014398509481984) →
    ∃ b, K12_0 f (l, (i : Int)) = some b ∧ (b = true → FewB l) := by
  intro d
  have done : ∀ (i : Nat), (i ≥ l.length ∨ i = 50) → (∀ k (hk : k < l.length), k < i → l[k].2.1.length ≤ 100 ∧ ∀ x ∈ l[k].2.1, -18014398509481984 ≤ x.1 ∧ x.1 ≤ 18014398509481984) → decide ((l.length : Int) ≤ 50) = true → FewB l := by
    intro i hi hp h
    have h50 := of_decide_eq_true h
    refine ⟨by omega, fun e he => ?_⟩
    obtain ⟨k, hk, rfl⟩ := List.mem_iff_getElem.1 he
    exact hp k hk (by omega)
  induction d with
  | zero =>
    intro i f hi hf hp
    obtain ⟨f, rfl⟩ : ∃ q, f = q + 1 := ⟨f - 1, by omega⟩
    refine ⟨decide ((l.length : Int) ≤ 50), ?_, done i (by omega) hp⟩
    refine (fwbK _ _).trans ?_
    unfold B12_0_2
    by_cases hc : i < l.length
    · rw [decide_eq_true (by simp only []; omega), cond_true, decide_eq_false (by simp only []; omega), cond_false]
    · rw [decide_eq_false (by simp only []; omega), cond_false]
  | succ d ih =>
    intro i f hi hf hp
    obtain ⟨f, rfl⟩ : ∃ q, f = q + 1 := ⟨f - 1, by omega⟩
    by_cases hil : i < l.length
    case neg =>
      refine ⟨decide ((l.length : Int) ≤ 50), ?_, done i (by omega) hp⟩
      refine (fwbK _ _).trans ?_
      unfold B12_0_2
      rw [decide_eq_false (by simp only []; omega), cond_false]
    have base : K12_0 (f + 1) (l, (i : Int)) = bif decide ((l[i].2.1.length : Int) > 100) then some false else bif decide ((l[i].2.2.length : Int) > 300) then some false else (F27_0 l[i]).bind fun r38 => bif !r38 then some false else K12_0 f (l, ((i + 1 : Nat) : Int)) := by
      refine (fwbK _ _).trans ?_
      unfold B12_0_2
      rw [decide_eq_true (by simp only []; omega), cond_true, decide_eq_true (by simp only []; omega), cond_true]
      simp only [srd hil, bndS]
      rw [w64 (by omega)]
      rfl
    rw [base]
    by_cases h1 : (l[i].2.1.length : Int) > 100
    · rw [decide_eq_true h1, cond_true]; exact ⟨false, rfl, fun h => by cases h⟩
    rw [decide_eq_false h1, cond_false]
    by_cases h2 : (l[i].2.2.length : Int) > 300
    · rw [decide_eq_true h2, cond_true]; exact ⟨false, rfl, fun h => by cases h⟩
    rw [decide_eq_false h2, cond_false]
    obtain ⟨b, e, hb⟩ := tm_p l[i] (by omega) (by omega)
    rw [e, bndS]
    cases b with
    | false => exact ⟨false, rfl, fun h => by cases h⟩
    | true =>
      rw [Bool.not_true, cond_false]
      exact ih (i + 1) f (by omega) (by omega) (fun k hk hki => by
        by_cases ek : k = i
        · subst ek; exact ⟨by omega, hb rfl⟩
        · exact hp k hk (by omega))
theorem few_b (l : List EnT) : ∃ b, F12_0 l = some b ∧ (b = true → FewB l) := few_loop l 50 0 1000 (by omega) (by omega) (fun k hk h => by omega)
/-! ### The fastest -/
theorem tE_in {l : List EnT} (hf : FewB l) {k : Nat} (hk : k < l.length) : -18014398509481984 ≤ tE l[k] ∧ tE l[k] ≤ 18014398509481984 := by
  have h := hf.2 _ (List.getElem_mem hk)
  cases ho : okE l[k] with
  | true =>
    obtain ⟨j, hj, _, _, et, _⟩ := okE_min l[k] h.1 ho
    rw [et]; exact h.2 _ (List.getElem_mem hj)
  | false =>
    unfold tE
    rw [if_neg (show ¬ (bestI l[k].2.1).2 = true by show ¬ okE l[k] = true; rw [ho]; decide)]
    decide
def fastV (l : List EnT) (z : List Int) : Int × Int := match z with | [] => (-1, -1) | x :: _ => (x, (bestI (l.getD x.toNat (0, ([], []))).2.1).1)
theorem fast_p (l : List EnT) (hf : FewB l) (z : List Int) (hz : Rk l z) (hr : F15_0 l = some z) : F13_0 l = some (fastV l z) := by
  have E : ∀ f, E13_0 (K13_0 (f + 1)) l = some (fastV l z) := by
    intro f
    unfold E13_0
    rw [hr, bndS]
    have k1 : K13_0 (f + 1) ((l, ((z.length : Int), (0 : Int))), z) = B13_0_2 (K13_0 f) ((l, ((z.length : Int), (0 : Int))), z) := rfl
    rw [k1]
    unfold B13_0_2
    cases z with
    | nil => rfl
    | cons x z =>
      obtain ⟨k, hk, e, ho⟩ := hz.mem x (by simp)
      subst e
      rw [decide_eq_true (by simp only [List.length_cons]; omega), cond_true]
      simp only []
      rw [show idx (0 : Int) ((k : Int) :: z).length = some 0 from sidx (by simp), bndS, show (((k : Int) :: z) : List Int)[0]? = some (k : Int) from rfl, bndS, srd hk, bndS]
      rw [(best_p l[k].2.1 (hf.2 _ (List.getElem_mem hk)).1).1, bndS]
      unfold fastV
      simp [List.getD, List.getElem?_eq_getElem hk]
  exact E 999
/-! ### The gaps -/
def tZ (l : List EnT) (x : Int) : Int := tE (l.getD x.toNat (0, ([], [])))
def gapL (l : List EnT) (z : List Int) : List Int := z.map fun x => tZ l x - tZ l (z.getD 0 0)
theorem gpK (n : Nat) (v) : K16_0 (n + 1) v = B16_0_4 (K16_0 n) v := rfl
theorem tZ_at {l : List EnT} {k : Nat} (hk : k < l.length) : tZ l (k : Int) = tE l[k] := by unfold tZ; simp [List.getD, List.getElem?_eq_getElem hk]
theorem gap_loop (l : List EnT) (hf : FewB l) (z : List Int) (hz : Rk l z) : ∀ (d i f : Nat) (first : Int), i + d = z.length → d < f → (i ≠ 0 → first = tZ l (z.getD 0 0)) →
    K16_0 f ((l, (first, ((z.length : Int), (i : Int)))), (z, (gapL l z).take i)) = some (gapL l z) := by
  have lg : (gapL l z).length = z.length := List.length_map _
  have hz50 : z.length ≤ 50 := Nat.le_trans hz.le hf.1
  intro d
  induction d with
  | zero =>
    intro i f first hi hff hfi
    obtain ⟨f, rfl⟩ : ∃ q, f = q + 1 := ⟨f - 1, by omega⟩
    refine (gpK _ _).trans ?_
    unfold B16_0_4
    rw [decide_eq_false (by simp only []; omega), cond_false]
    simp only [List.take_of_length_le (show (gapL l z).length ≤ i by omega)]
  | succ d ih =>
    intro i f first hi hff hfi
    obtain ⟨f, rfl⟩ : ∃ q, f = q + 1 := ⟨f - 1, by omega⟩
    have hil : i < z.length := by omega
    obtain ⟨k, hk, ek, ho⟩ := hz.mem _ (List.getElem_mem hil)
    have h0 : 0 < z.length := by omega
    obtain ⟨k0, hk0, ek0, _⟩ := hz.mem _ (List.getElem_mem h0)
    have b := bestE l[k] (hf.2 _ (List.getElem_mem hk)).1
    have bk := tE_in hf hk
    have bk0 := tE_in hf hk0
    have g0 : z.getD 0 0 = (k0 : Int) := by simp [List.getD, List.getElem?_eq_getElem h0, ek0]
    have w1 : IntKind.wrap .i64 ((i : Int) + 1) = ((i + 1 : Nat) : Int) := by rw [w64 (by omega)]; omega
    have gi : (gapL l z)[i]? = some (tE l[k] - tE l[k0]) := by
      unfold gapL
      rw [List.getElem?_map, List.getElem?_eq_getElem hil, ek, g0]
      simp only [Option.map_some]
      rw [tZ_at hk, tZ_at hk0]
    have tk : (gapL l z).take (i + 1) = (gapL l z).take i ++ [tE l[k] - tE l[k0]] := by rw [List.take_add_one, gi]; rfl
    have lt : ((gapL l z).take i).length = i := by simp [lg]; omega
    refine (gpK _ _).trans ?_
    unfold B16_0_4
    rw [decide_eq_true (by simp only []; omega), cond_true]
    simp only [sidx hil, bndS, List.getElem?_eq_getElem hil, ek, srd hk]
    rw [b, bndS]
    simp only []
    by_cases hi0 : i = 0
    · subst hi0
      have ekk : k = k0 := by rw [ek0] at ek; omega
      subst ekk
      rw [show (((0 : Nat) : Int) == 0) = true from rfl, cond_true]
      rw [w64 (show -9223372036854775808 ≤ tE l[k] - tE l[k] ∧ tE l[k] - tE l[k] ≤ 9223372036854775807 by omega), decide_eq_true (show (((gapL l z).take 0).length + ([tE l[k] - tE l[k]] : List Int).length) * 8 ≤ 140737488355328 by simp)]
      simp only [chk, bndS, w1]
      rw [← tk]
      exact ih 1 f (tE l[k]) (by omega) (by omega) (fun _ => by rw [g0, tZ_at hk0])
    · have hfirst := hfi hi0
      rw [g0, tZ_at hk0] at hfirst
      subst hfirst
      rw [show ((i : Int) == 0) = false from beq_eq_false_iff_ne.2 (by omega), cond_false]
      rw [w64 (show -9223372036854775808 ≤ tE l[k] - tE l[k0] ∧ tE l[k] - tE l[k0] ≤ 9223372036854775807 by omega), decide_eq_true (show (((gapL l z).take i).length + ([tE l[k] - tE l[k0]] : List Int).length) * 8 ≤ 140737488355328 by rw [lt]; simp; omega)]
      simp only [chk, bndS, w1]
      rw [← tk]
      exact ih (i + 1) f (tE l[k0]) (by omega) (by omega) (fun _ => by rw [g0, tZ_at hk0])
theorem gap_p (l : List EnT) (hf : FewB l) (z : List Int) (hz : Rk l z) (hr : F15_0 l = some z) : F16_0 l = some (gapL l z) := by
  have hz50 : z.length ≤ 50 := Nat.le_trans hz.le hf.1
  have E : ∀ fu, 900 < fu → E16_0 (K16_0 fu) l = some (gapL l z) := by
    intro fu hfu
    unfold E16_0
    rw [hr, bndS]
    have := gap_loop l hf z hz z.length 0 fu 0 (by omega) (by omega) (fun h => absurd rfl h)
    rw [List.take_zero] at this
    exact this
  exact E 1000 (by decide)
/-! ### The law -/
theorem lwK1 (n : Nat) (v) : (K6_0 (n + 1)).1 v = B6_0_6 (K6_0 n) v := rfl
theorem lwK2 (n : Nat) (v) : (K6_0 (n + 1)).2.1 v = B6_0_12 (K6_0 n) v := rfl
theorem lwK3 (n : Nat) (v) : (K6_0 (n + 1)).2.2.1 v = B6_0_24 (K6_0 n) v := rfl
theorem lwK4 (n : Nat) (v) : (K6_0 (n + 1)).2.2.2 v = B6_0_27 (K6_0 n) v := rfl
theorem lw_in (l : List EnT) (hf : FewB l) (z : List Int) (hz : Rk l z) (so : Int) {n : Nat} (hn : n < l.length) : ∀ (d m f : Nat), m + d = l[n].2.1.length → d < f →
    (K6_0 f).2.1 (l, (so, ((fastV l z).1, ((fastV l z).2, ((n : Int), (m : Int)))))) = some true ∨ ∃ f', f ≤ f' + d + 1 ∧ (K6_0 f).2.1 (l, (so, ((fastV l z).1, ((fastV l z).2, ((n : Int), (m : Int)))))) = (K6_0 f').1 (l, (so, ((fastV l z).1, ((fastV l z).2, ((n + 1 : Nat) : Int))))) := by
  have hln := hf.2 _ (List.getElem_mem hn)
  have hl50 := hf.1
  intro d
  induction d with
  | zero =>
    intro m f hm hff
    obtain ⟨f, rfl⟩ : ∃ q, f = q + 1 := ⟨f - 1, by omega⟩
    refine .inr ⟨f, by omega, ?_⟩
    refine (lwK2 _ _).trans ?_
    unfold B6_0_12
    simp only [srd hn, bndS]
    rw [decide_eq_false (by omega), cond_false, w64 (by omega)]
    rfl
  | succ d ih =>
    intro m f hm hff
    obtain ⟨f, rfl⟩ : ∃ q, f = q + 1 := ⟨f - 1, by omega⟩
    have hml : m < l[n].2.1.length := by omega
    have w1 : IntKind.wrap .i64 ((m : Int) + 1) = ((m + 1 : Nat) : Int) := by rw [w64 (by omega)]; omega
    have go : ∀ X, X = (K6_0 f).2.1 (l, (so, ((fastV l z).1, ((fastV l z).2, ((n : Int), ((m + 1 : Nat) : Int)))))) → X = some true ∨ ∃ f', f + 1 ≤ f' + (d + 1) + 1 ∧ X = (K6_0 f').1 (l, (so, ((fastV l z).1, ((fastV l z).2, ((n + 1 : Nat) : Int))))) := by
      intro X hX
      rcases ih (m + 1) f (by omega) (by omega) with h | ⟨f', h1, h2⟩
      · exact .inl (hX.trans h)
      · exact .inr ⟨f', by omega, hX.trans h2⟩
    rw [lwK2]
    unfold B6_0_12
    simp only [srd hn, bndS]
    rw [decide_eq_true (by omega), cond_true]
    simp only [srd hml, bndS]
    by_cases s1 : l[n].2.1[m].1 < 0
    · rw [decide_eq_true s1, cond_true]; exact .inl rfl
    rw [decide_eq_false s1, cond_false]
    by_cases s2 : l[n].2.1[m].1 > 1152921504606846976
    · rw [decide_eq_true s2, cond_true]; exact .inl rfl
    rw [decide_eq_false s2, cond_false]
    cases hv : l[n].2.1[m].2 with
    | false =>
      rw [cond_false, w1]
      exact go _ rfl
    | true =>
      rw [cond_true]
      have hok : okE l[n] = true := by
        cases h : okE l[n] with
        | true => rfl
        | false => have := okE_no l[n] hln.1 h _ (List.getElem_mem hml); rw [hv] at this; cases this
      have hmem := hz.all n hn hok
      obtain ⟨jn, hjn, ejn⟩ := List.mem_iff_getElem.1 hmem
      obtain ⟨_, _, _, _, _, hmn⟩ := okE_min l[n] hln.1 hok
      have h1 : tE l[n] ≤ l[n].2.1[m].1 := hmn _ (List.getElem_mem hml) hv
      have h0 : 0 < z.length := by omega
      obtain ⟨k0, hk0, ek0, hok0⟩ := hz.mem _ (List.getElem_mem h0)
      have h2 : tE l[k0] ≤ tE l[n] := hz.srt 0 jn h0 hjn k0 n hk0 hn (Nat.zero_le _) ek0 ejn
      have hl0 := hf.2 _ (List.getElem_mem hk0)
      obtain ⟨q, hq, eq, hvq, etq, _⟩ := okE_min l[k0] hl0.1 hok0
      have fv : fastV l z = ((k0 : Int), (q : Int)) := by
        cases z with
        | nil => simp at h0
        | cons x z =>
          simp only [List.getElem_cons_zero] at ek0
          subst ek0
          unfold fastV
          simp only [Int.toNat_natCast, List.getD, List.getElem?_eq_getElem hk0, Option.getD_some, eq]
      rw [fv] at go ⊢
      simp only [] at go ⊢
      rw [decide_eq_false (show ¬ (k0 : Int) < 0 by omega), cond_false, decide_eq_false (show ¬ (k0 : Int) ≥ (l.length : Int) by omega), cond_false, decide_eq_false (show ¬ (q : Int) < 0 by omega), cond_false]
      simp only [srd hk0, bndS]
      rw [decide_eq_false (show ¬ (q : Int) ≥ (l[k0].2.1.length : Int) by omega), cond_false]
      simp only [srd hq, bndS]
      rw [decide_eq_false (show ¬ l[k0].2.1[q].1 > l[n].2.1[m].1 by omega), cond_false, hvq, Bool.not_true, cond_false, w1]
      exact go _ rfl
theorem lw_pair (l : List EnT) (hf : FewB l) (z : List Int) (hz : Rk l z) {n : Nat} (hn : n < z.length) : ∀ (d m f : Nat), m + d = n → d < f →
    ∃ f', f ≤ f' + d + 1 ∧ (K6_0 f).2.2.2 (((z.length : Int), ((n : Int), (m : Int))), (gapL l z, z)) = (K6_0 f').2.2.1 (((z.length : Int), ((n + 1 : Nat) : Int)), (gapL l z, z)) := by
  have lg : (gapL l z).length = z.length := List.length_map _
  have hz50 : z.length ≤ 50 := Nat.le_trans hz.le hf.1
  intro d
  induction d with
  | zero =>
    intro m f hm hff
    obtain ⟨f, rfl⟩ : ∃ q, f = q + 1 := ⟨f - 1, by omega⟩
    refine ⟨f, by omega, ?_⟩
    refine (lwK4 _ _).trans ?_
    unfold B6_0_27
    rw [decide_eq_false (by simp only []; omega), cond_false]
    simp only []
    rw [w64 (by omega)]
    rfl
  | succ d ih =>
    intro m f hm hff
    obtain ⟨f, rfl⟩ : ∃ q, f = q + 1 := ⟨f - 1, by omega⟩
    obtain ⟨f', h1, h2⟩ := ih (m + 1) f (by omega) (by omega)
    have hml : m < z.length := by omega
    have hne : z[m] ≠ z[n] := (List.pairwise_iff_getElem.1 hz.ne) m n hml hn (by omega)
    obtain ⟨a, ha, ea, _⟩ := hz.mem _ (List.getElem_mem hml)
    obtain ⟨b, hb, eb, _⟩ := hz.mem _ (List.getElem_mem hn)
    have hle := hz.srt m n hml hn a b ha hb (by omega) ea eb
    have gm : (gapL l z)[m]? = some (tE l[a] - tZ l (z.getD 0 0)) := by unfold gapL; rw [List.getElem?_map, List.getElem?_eq_getElem hml, ea]; simp only [Option.map_some]; rw [tZ_at ha]
    have gn : (gapL l z)[n]? = some (tE l[b] - tZ l (z.getD 0 0)) := by unfold gapL; rw [List.getElem?_map, List.getElem?_eq_getElem hn, eb]; simp only [Option.map_some]; rw [tZ_at hb]
    refine ⟨f', by omega, ?_⟩
    refine (lwK4 _ _).trans ?_
    unfold B6_0_27
    rw [decide_eq_true (by simp only []; omega), cond_true]
    simp only [sidx hml, sidx hn, bndS, List.getElem?_eq_getElem hml, List.getElem?_eq_getElem hn]
    rw [show (z[m] == z[n]) = false from beq_eq_false_iff_ne.2 hne, cond_false]
    simp only [lg, sidx hml, sidx hn, bndS, gm, gn]
    rw [decide_eq_false (show ¬ tE l[a] - tZ l (z.getD 0 0) > tE l[b] - tZ l (z.getD 0 0) by omega), cond_false, w64 (by omega)]
    rw [show ((m + 1 : Nat) : Int) = (m : Int) + 1 by omega] at h2
    exact h2
theorem lw_two (l : List EnT) (hf : FewB l) (z : List Int) (hz : Rk l z) : ∀ (d n f : Nat), n + d = z.length → 60 * (d + 1) < f → (K6_0 f).2.2.1 (((z.length : Int), (n : Int)), (gapL l z, z)) = some true := by
  have lg : (gapL l z).length = z.length := List.length_map _
  have hz50 : z.length ≤ 50 := Nat.le_trans hz.le hf.1
  intro d
  induction d with
  | zero =>
    intro n f hn hff
    obtain ⟨f, rfl⟩ : ∃ q, f = q + 1 := ⟨f - 1, by omega⟩
    refine (lwK3 _ _).trans ?_
    unfold B6_0_24
    rw [decide_eq_false (by simp only []; omega), cond_false]
    simp only []
    by_cases h0 : z.length = 0
    · rw [show ((z.length : Int) == 0) = true by rw [h0]; rfl, cond_true, awake43, bndS]
    · have hp : 0 < z.length := by omega
      obtain ⟨k0, hk0, ek0, _⟩ := hz.mem _ (List.getElem_mem hp)
      have g0 : z.getD 0 0 = (k0 : Int) := by simp [List.getD, List.getElem?_eq_getElem hp, ek0]
      have gm : (gapL l z)[0]? = some 0 := by
        unfold gapL; rw [List.getElem?_map, List.getElem?_eq_getElem hp, ek0, g0]; simp
      rw [show ((z.length : Int) == 0) = false from beq_eq_false_iff_ne.2 (by omega), cond_false, lg, show idx (0 : Int) z.length = some 0 from sidx hp, bndS, gm, bndS, show ((0 : Int) == 0) = true from rfl, cond_true, awake43, bndS]
  | succ d ih =>
    intro n f hn hff
    obtain ⟨f, rfl⟩ : ∃ q, f = q + 1 := ⟨f - 1, by omega⟩
    have hnl : n < z.length := by omega
    obtain ⟨f', h1, h2⟩ := lw_pair l hf z hz hnl n 0 f (by omega) (by omega)
    have e := ih (n + 1) f' (by omega) (by omega)
    refine (lwK3 _ _).trans ?_
    unfold B6_0_24
    rw [decide_eq_true (by simp only []; omega), cond_true]
    exact h2.trans e
theorem lw_one (l : List EnT) (hf : FewB l) (z : List Int) (hz : Rk l z) (hr : F15_0 l = some z) : ∀ (d n f : Nat), n + d = l.length → 110 * (d + 1) + 4000 < f →
    (K6_0 f).1 (l, (((l.take n).countP okE : Int), ((fastV l z).1, ((fastV l z).2, (n : Int))))) = some true := by
  have hl50 := hf.1
  have hz50 : z.length ≤ 50 := Nat.le_trans hz.le hf.1
  intro d
  induction d with
  | zero =>
    intro n f hn hff
    obtain ⟨f, rfl⟩ : ∃ q, f = q + 1 := ⟨f - 1, by omega⟩
    obtain rfl : n = l.length := by omega
    have cnt : ((l.take l.length).countP okE : Int) = (z.length : Int) := by rw [hz.len, List.take_of_length_le (Nat.le_refl _)]
    have lg : (gapL l z).length = z.length := List.length_map _
    refine (lwK1 _ _).trans ?_
    unfold B6_0_6
    rw [decide_eq_false (by simp only []; omega), cond_false]
    simp only []
    rw [hr, bndS, gap_p l hf z hz hr, bndS, cnt, lg]
    simp only [bne_self_eq_false, cond_false]
    exact lw_two l hf z hz z.length 0 f (by omega) (by omega)
  | succ d ih =>
    intro n f hn hff
    obtain ⟨f, rfl⟩ : ∃ q, f = q + 1 := ⟨f - 1, by omega⟩
    have hnl : n < l.length := by omega
    have hln := hf.2 _ (List.getElem_mem hnl)
    have b := bestE l[n] hln.1
    have tki : l.take (n + 1) = l.take n ++ [l[n]] := by rw [List.take_add_one, List.getElem?_eq_getElem hnl]; rfl
    have cle : (l.take n).countP okE ≤ n := by have := List.countP_le_length (p := okE) (l := l.take n); simp at this; omega
    refine (lwK1 _ _).trans ?_
    unfold B6_0_6
    rw [decide_eq_true (by simp only []; omega), cond_true]
    simp only [srd hnl, bndS]
    rw [b, bndS]
    have step : ∀ so : Int, so = ((l.take (n + 1)).countP okE : Int) → (K6_0 f).2.1 (l, (so, ((fastV l z).1, ((fastV l z).2, ((n : Int), (0 : Int)))))) = some true := by
      intro so hso
      subst hso
      rcases lw_in l hf z hz ((l.take (n + 1)).countP okE : Int) hnl l[n].2.1.length 0 f (by omega) (by omega) with h | ⟨f', h1, h2⟩
      · exact h
      · exact h2.trans (ih (n + 1) f' (by omega) (by omega))
    cases ho : okE l[n] with
    | true =>
      simp only [cond_true]
      rw [w64 (by omega)]
      exact step _ (by rw [tki, List.countP_append]; simp [ho])
    | false =>
      simp only [cond_false]
      exact step _ (by rw [tki, List.countP_append]; simp [ho])
theorem coreBoard (v) (h : Dom6_0 v) (fu : Nat) (hfu : 15000 < fu) : E6_0 (K6_0 fu) v = some true := by
  unfold E6_0
  obtain ⟨b, e, hb⟩ := few_b v
  rw [e, bndS]
  cases b with
  | false => rw [Bool.not_false, cond_true]
  | true =>
    rw [Bool.not_true, cond_false]
    have hf := hb rfl
    obtain ⟨z, hz, hr⟩ := rank_p v hf.1 (fun e he => (hf.2 e he).1)
    rw [fast_p v hf z hz hr, bndS]
    have hl50 := hf.1
    have := lw_one v hf z hz hr v.length 0 fu (by omega) (by omega)
    rw [List.take_zero] at this
    exact this
theorem law6_0 (v) (h : Dom6_0 v) : F6_0 v = some true := by
  have hF : F6_0 v = E6_0 (K6_0 (fuel6_0 v)) v := rfl
  rw [hF, show fuel6_0 v = 20000 from rfl]
  exact coreBoard v h 20000 (by omega)
end Go.Proofs.Ytgjglkogengmbaa.Ev
