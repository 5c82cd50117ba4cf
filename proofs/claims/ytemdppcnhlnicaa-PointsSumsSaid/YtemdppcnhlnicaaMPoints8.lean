/- Points: the four laws. -/
import Derived.Test.YtemdppcnhlnicaaMPoints7
set_option linter.unusedVariables false
set_option linter.unusedSimpArgs false
namespace Go.Proofs.Ytemdppcnhlnicaa.Ev
open Go
/-! ### Scores -/
theorem law3_0 (v : (List Int × Int) × (List Int × Int) × Int) (h : Dom3_0 v) : F3_0 v = some true := by
  obtain ⟨s, r, c⟩ := v
  obtain ⟨b, e7, hb⟩ := f7 s [r]
  unfold F3_0
  simp only [e7, bnd']
  cases b with
  | false => rfl
  | true =>
    have hr : r.1.length ≤ 60 := (hb rfl).2.2 r (by simp)
    rw [Bool.not_true, cond_false, f8_1, bnd', f9, bnd']
    simp only []
    rw [f10, bnd', beq_self_eq_true, cond_true, f11 s r c hr, bnd']
    rw [show idx 0 ([r] : List Rnd).length = some 0 from rfl, bnd', show ([r] : List Rnd)[0]? = some r from rfl, bnd', f12 s r c hr, bnd', beq_self_eq_true, cond_true, awake48, bnd']
/-! ### Tables -/
theorem k4 (t : List TRow) (ht : t.length ≤ 10000) (h60 : ∀ x ∈ t, x.2.2.length ≤ 60) : ∀ (rest pre : List TRow) (n : Nat), t = pre ++ rest → K4_0 (n + rest.length + 1) ((pre.length : Int), (t, t)) = some true := by
  intro rest
  induction rest with
  | nil =>
    intro pre n h
    subst h
    show B4_0_9 (K4_0 _) _ = _
    unfold B4_0_9
    simp only [lt_end, cond_false, awake48, bnd']
  | cons a rest ih =>
    intro pre n h
    have ih' := ih (pre ++ [a]) n (by rw [h]; simp)
    have ha := h60 a (by rw [h]; simp)
    subst h
    have hl' : pre.length + (rest.length + 1) ≤ 10000 := by simpa using ht
    show B4_0_9 (K4_0 (n + (rest.length + 1))) _ = _
    unfold B4_0_9
    simp only [idx_rdx, lt_mid, cond_true, rd_mid, bnd', w_mid pre a (by omega), bne_self_eq_false, cond_false, f18 _ ha, Bool.not_true]
    exact ih'
theorem tab_times {s : Sca} {l : List Rnd} (h : Small l) {x : TRow} (hx : x ∈ tab s l) : x.2.2.length ≤ 60 := by
  obtain ⟨c, _, rfl⟩ := mem_tab.1 hx
  rw [rowOf_len]; exact lng_le l h.2
theorem law4_0 (v : (List Int × Int) × (List (List Int × Int)) × Int) (h : Dom4_0 v) : F4_0 v = some true := by
  obtain ⟨s, l, left⟩ := v
  obtain ⟨b, e7, hb⟩ := f7 s l
  show E4_0 (K4_0 20000) (s, (l, left)) = _
  unfold E4_0
  simp only [e7, bnd']
  cases b with
  | false => rfl
  | true =>
    have hf := hb rfl
    have hs := hf.small
    have hlen := tab_len s l
    have hsl := seen_len hs
    rw [Bool.not_true, cond_false, f8_0 s l hs.1, bnd', f14_0 s l hs, bnd', f15_1 s l hs hf.1, bnd']
    simp only [bne_self_eq_false, cond_false]
    rw [f16 s l left hs, bnd', f17 s l left hs hf.1, bnd', beq_self_eq_true, Bool.not_true, cond_false]
    obtain ⟨n, hn⟩ : ∃ n, 20000 = n + (tab s l).length + 1 := ⟨20000 - (tab s l).length - 1, by omega⟩
    rw [hn]
    exact k4 (tab s l) (by omega) (fun x hx => tab_times hs hx) (tab s l) [] n rfl
/-! ### Sums -/
theorem k5_9 (s : Sca) (l : List Rnd) (hl : Small l) (t : List TRow) (i : Nat) (x : TRow) (hx : rdx t (i : Int) = some x) (hsum : x.2.1 = (l.map fun r => pt s r x.1).sum) (hprev : ∀ j y, i = j + 1 → rdx t (j : Int) = some y → x.2.1 ≤ y.2.1) (hi : i < t.length) (ht : t.length ≤ 10000) : ∀ (rest pre : List Rnd) (n : Nat), l = pre ++ rest →
    (K5_0 (n + rest.length + 1)).2.1 ((l, ((i : Int), ((pre.map fun r => pt s r x.1).sum, (pre.length : Int)))), (t, s)) = (K5_0 n).2.2 ((l, ((i : Int), 0)), (t, s)) := by
  intro rest
  induction rest with
  | nil =>
    intro pre n h
    rw [List.append_nil] at h
    subst h
    show B5_0_9 (K5_0 _) _ = _
    unfold B5_0_9
    rw [decide_eq_false (by simp only []; omega), cond_false]
    simp only [idx_rdx, hx, bnd', ← hsum, bne_self_eq_false, cond_false]
    by_cases h0 : (i : Int) > 0
    · rw [decide_eq_true h0, cond_true]
      obtain ⟨j, rfl⟩ : ∃ j, i = j + 1 := ⟨i - 1, by omega⟩
      have hj : rdx t (j : Int) = some t[j] := srd (by omega)
      have := hprev j _ rfl hj
      rw [w64 (by omega), show ((j + 1 : Nat) : Int) - 1 = (j : Int) by omega, hj, bnd', decide_eq_false (by omega), cond_false]; rfl
    · rw [decide_eq_false h0, cond_false]; rfl
  | cons r rest ih =>
    intro pre n h
    have hr : r.1.length ≤ 60 := hl.2 r (by rw [h]; simp)
    have hlen : pre.length + (rest.length + 1) ≤ 60 := by have := hl.1; rw [h] at this; simpa using this
    have hsb := sum_bound s pre x.1
    have hpb := pt_bound s r x.1
    have ih' := ih (pre ++ [r]) n (by rw [h]; simp)
    rw [List.map_append, List.sum_append, List.map_cons, List.map_nil, List.sum_cons, List.sum_nil, Int.add_zero] at ih'
    have hlt : decide ((pre.length : Int) < (l.length : Int)) = true := by rw [h]; exact lt_mid ..
    have hrd : rdx l (pre.length : Int) = some r := by rw [h]; exact rd_mid ..
    show B5_0_9 (K5_0 (n + (rest.length + 1))) _ = _
    unfold B5_0_9
    simp only [idx_rdx, hlt, cond_true, hrd, hx, bnd', f11 s r x.1 hr, w_mid pre r (by omega), w64 (show -9223372036854775808 ≤ (pre.map fun r => pt s r x.1).sum + pt s r x.1 ∧ (pre.map fun r => pt s r x.1).sum + pt s r x.1 ≤ 9223372036854775807 by omega)]
    exact ih'
theorem k5_15 (s : Sca) (l : List Rnd) (t : List TRow) (i : Nat) (x : TRow) (hx : rdx t (i : Int) = some x) (hi : i < t.length) (ht : t.length ≤ 10000) (hne : ∀ j y, j < i → rdx t (j : Int) = some y → y.1 ≠ x.1) : ∀ (d k n : Nat), k + d = i →
    (K5_0 (n + d + 1)).2.2 ((l, ((i : Int), (k : Int))), (t, s)) = (K5_0 n).1 ((l, ((i + 1 : Nat) : Int)), (t, s)) := by
  intro d
  induction d with
  | zero =>
    intro k n hk
    show B5_0_15 (K5_0 _) _ = _
    unfold B5_0_15
    rw [decide_eq_false (by simp only []; omega), cond_false]
    simp only []
    rw [w64 (by omega)]; rfl
  | succ d ih =>
    intro k n hk
    have ih' := ih (k + 1) n (by omega)
    have hj : rdx t (k : Int) = some t[k] := srd (by omega)
    have hn := hne k _ (by omega) hj
    show B5_0_15 (K5_0 (n + (d + 1))) _ = _
    unfold B5_0_15
    rw [decide_eq_true (by simp only []; omega), cond_true]
    simp only [idx_rdx, hj, hx, bnd']
    rw [show ((t[k]).1 == x.1) = false from beq_eq_false_iff_ne.2 hn, cond_false, w64 (by omega)]
    exact ih'
theorem k5_5 (s : Sca) (l : List Rnd) (hl : Small l) (t : List TRow) (ht : t.length ≤ 1800) (hsum : ∀ x ∈ t, x.2.1 = (l.map fun r => pt s r x.1).sum) (hs : Srt t) (hn : (t.map (·.1)).Nodup) : ∀ (rest pre : List TRow) (f : Nat), t = pre ++ rest → 2000 * rest.length < f →
    (K5_0 f).1 ((l, (pre.length : Int)), (t, s)) = some true := by
  intro rest
  induction rest with
  | nil =>
    intro pre f h hf
    obtain ⟨f, rfl⟩ : ∃ g, f = g + 1 := ⟨f - 1, by omega⟩
    subst h
    show B5_0_5 (K5_0 _) _ = _
    unfold B5_0_5
    simp only [lt_end, cond_false, awake48, bnd']
  | cons x rest ih =>
    intro pre f h hf
    have hlen : pre.length + (rest.length + 1) ≤ 1800 := by rw [h] at ht; simpa using ht
    rw [List.length_cons] at hf
    have hl60 := hl.1
    obtain ⟨n, hfn⟩ : ∃ n, f = (n + pre.length + 1) + l.length + 1 + 1 := ⟨f - pre.length - l.length - 3, by omega⟩
    have ih' := ih (pre ++ [x]) n (by rw [h]; simp) (by omega)
    have hrd : rdx t (pre.length : Int) = some x := by rw [h]; exact rd_mid ..
    have hlt : decide ((pre.length : Int) < (t.length : Int)) = true := by rw [h]; exact lt_mid ..
    have hi : pre.length < t.length := by rw [h]; simp
    have hxi : x = t[pre.length] := by have := srd hi; rw [hrd] at this; exact Option.some.inj this
    have e9 := k5_9 s l hl t pre.length x hrd (hsum x (by rw [h]; simp)) (by
      intro j y hj hy
      have hjl : j < t.length := by omega
      have hyj : y = t[j] := by have := srd hjl; rw [hy] at this; exact Option.some.inj this
      have := (List.pairwise_iff_getElem.1 hs) j pre.length hjl hi (by omega)
      rw [hyj, hxi]
      exact rowLe_pts this) hi (by omega) l [] (n + pre.length + 1) rfl
    have e15 := k5_15 s l t pre.length x hrd hi (by omega) (by
      intro j y hj hy hyx
      have hjl : j < t.length := by omega
      have hyj : y = t[j] := by have := srd hjl; rw [hy] at this; exact Option.some.inj this
      have := (List.getElem_inj (xs := t.map (·.1)) (h₀ := by simpa using hjl) (h₁ := by simpa using hi) hn).1 (by rw [List.getElem_map, List.getElem_map, ← hyj, ← hxi]; exact hyx)
      omega) pre.length 0 n (by omega)
    rw [hfn]
    show B5_0_5 (K5_0 _) _ = _
    unfold B5_0_5
    simp only [hlt, cond_true]
    refine e9.trans (e15.trans ?_)
    rw [List.length_append, List.length_singleton] at ih'
    exact ih'
theorem law5_0 (v : (List Int × Int) × List (List Int × Int)) (h : Dom5_0 v) : F5_0 v = some true := by
  obtain ⟨s, l⟩ := v
  obtain ⟨b, e7, hb⟩ := f7 s l
  show E5_0 (K5_0 4000000) (s, l) = _
  unfold E5_0
  simp only [e7, bnd']
  cases b with
  | false => rfl
  | true =>
    have hf := hb rfl
    have hs := hf.small
    have hlen := tab_len s l
    have hsl := seen_len' hs.2
    have h30 := hf.1
    rw [Bool.not_true, cond_false, f14_0 s l hs, bnd']
    exact k5_5 s l hs (tab s l) (by omega) (fun x hx => tab_pts hx) (tab_srt s l) (tab_cars s l) (tab s l) [] 4000000 rfl (by omega)
/-! ### Sure -/
theorem sum_zero (s : Sca) (l : List Rnd) (c : Int) (h : c ∉ seen l) : (l.map fun r => pt s r c).sum = 0 := by
  induction l with
  | nil => rfl
  | cons r l ih =>
    rw [List.map_cons, List.sum_cons]
    have h1 : pt s r c = 0 := by
      unfold pt
      rw [plc_none.2 (fun hc => h (mem_seen.2 ⟨r, by simp, hc⟩))]
    have h2 := ih (fun hc => by obtain ⟨q, hq, hc⟩ := mem_seen.1 hc; exact h (mem_seen.2 ⟨q, by simp [hq], hc⟩))
    rw [h1, h2]; rfl
theorem sum_top {s : Sca} (hg : good s = true) (l : List Rnd) (c : Int) : (l.map fun r => pt s r c).sum ≤ (l.length : Int) * (top s + s.2) := by
  induction l with
  | nil => simp
  | cons r l ih =>
    rw [List.map_cons, List.sum_cons, List.length_cons]
    have := pt_top hg r c
    rw [show ((l.length + 1 : Nat) : Int) = (l.length : Int) + 1 by omega, Int.add_mul, Int.one_mul]
    omega
theorem sure_stays (s : Sca) (l more : List Rnd) (h : sureB s l (more.length : Int) = true) : good s = true ∧ ∃ x rest y rest', tab s l = x :: rest ∧ tab s (l ++ more) = y :: rest' ∧ y.1 = x.1 := by
  unfold sureB at h
  have hmem := fun y => mem_tab (s := s) (l := l) (x := y)
  have hb := fun x => tab_bound (s := s) (l := l) (x := x)
  have hsrt := tab_srt s l
  have hpts := fun x => tab_pts (s := s) (l := l) (x := x)
  cases ht : tab s l with
  | nil => rw [ht] at h; cases h
  | cons x rest =>
    rw [ht] at h hmem hb hsrt hpts
    simp only [Bool.and_eq_true, decide_eq_true_eq] at h
    obtain ⟨_, hg, hx⟩ := h
    refine ⟨hg, x, rest, ?_⟩
    obtain ⟨c, hc, hcx⟩ := (hmem x).1 (List.mem_cons_self ..)
    have hcx1 : x.1 = c := by rw [← hcx, rowOf_car]
    have hc2 : c ∈ seen (l ++ more) := by
      obtain ⟨r, hr, hcr⟩ := mem_seen.1 hc
      exact mem_seen.2 ⟨r, List.mem_append_left _ hr, hcr⟩
    have hu := fun y => mem_tab (s := s) (l := l ++ more) (x := y)
    have hus := tab_srt s (l ++ more)
    have hup := fun y => tab_pts (s := s) (l := l ++ more) (x := y)
    have huc := (hu (rowOf s (lng (l ++ more)) (l ++ more) c)).2 ⟨c, hc2, rfl⟩
    cases hu2 : tab s (l ++ more) with
    | nil => rw [hu2] at huc; cases huc
    | cons y rest' =>
      rw [hu2] at huc hus hup hu
      refine ⟨y, rest', rfl, rfl, ?_⟩
      rcases Decidable.em (y.1 = x.1) with e | e
      · exact e
      · exfalso
        have p1 : (rowOf s (lng (l ++ more)) (l ++ more) c).2.1 ≤ y.2.1 := by
          rcases List.mem_cons.1 huc with h1 | h1
          · rw [h1]; omega
          · exact rowLe_pts ((List.pairwise_cons.1 hus).1 _ h1)
        have p2 := hup y (List.mem_cons_self ..)
        rw [List.map_append, List.sum_append] at p2
        rw [rowOf_pts, List.map_append, List.sum_append] at p1
        have p3 := sum_top hg more y.1
        have p4 := (sum_bound s more c).1
        have p5 := hpts x (List.mem_cons_self ..)
        rw [hcx1] at p5
        have p6 : (l.map fun r => pt s r y.1).sum ≤ second (x :: rest) := by
          by_cases hy : y.1 ∈ seen l
          · have hz := (hmem (rowOf s (lng l) l y.1)).2 ⟨y.1, hy, rfl⟩
            rcases List.mem_cons.1 hz with h1 | h1
            · exact absurd (by rw [← h1, rowOf_car]) e
            · rw [← rowOf_pts s (lng l) l y.1]
              cases rest with
              | nil => cases h1
              | cons z rest =>
                show _ ≤ z.2.1
                rcases List.mem_cons.1 h1 with h2 | h2
                · rw [h2]; omega
                · exact rowLe_pts ((List.pairwise_cons.1 (List.pairwise_cons.1 hsrt).2).1 _ h2)
          · rw [sum_zero s l y.1 hy]
            cases rest with
            | nil => exact Int.le_refl _
            | cons z rest => exact (hb z (by simp)).1
        omega
theorem law6_0 (v : (List Int × Int) × (List (List Int × Int)) × List (List Int × Int)) (h : Dom6_0 v) : F6_0 v = some true := by
  obtain ⟨s, l, more⟩ := v
  obtain ⟨b, e7, hb⟩ := f7 s l
  obtain ⟨b2, e72, hb2⟩ := f7 s more
  unfold F6_0
  simp only [e7, e72, bnd', awake48]
  cases b with
  | false => rfl
  | true =>
    cases b2 with
    | false => rfl
    | true =>
      have hf := hb rfl; have hf2 := hb2 rfl
      have hs := hf.small
      have h30 := hf.1; have h302 := hf2.1
      have hs2 : Small (l ++ more) := ⟨by rw [List.length_append]; omega, fun r hr => by rcases List.mem_append.1 hr with h | h; exact hf.2.2 r h; exact hf2.2.2 r h⟩
      rw [Bool.not_true, cond_false, cond_false, f16 s l _ hs, bnd']
      cases hsure : sureB s l (more.length : Int) with
      | false => rfl
      | true =>
        obtain ⟨hg, x, rest, y, rest', h1, h2, h3⟩ := sure_stays s l more hsure
        rw [Bool.not_true, cond_false, f14_0 s l hs, bnd', h1]
        simp only [List.nil_append]
        rw [show chk (decide ((([] : List Rnd).length + l.length) * 32 ≤ 140737488355328)) = some () by rw [decide_eq_true (by simp only [List.length_nil]; omega)]; rfl, bnd',
          show chk (decide ((l.length + more.length) * 32 ≤ 140737488355328)) = some () by rw [decide_eq_true (by omega)]; rfl, bnd', f14_2 s (l ++ more) hs2, bnd', h2]
        simp only []
        rw [decide_eq_true (show ((x :: rest).length : Int) > 0 by simp only [List.length_cons]; omega), cond_true, decide_eq_true (show ((y :: rest').length : Int) > 0 by simp only [List.length_cons]; omega), cond_true,
          show idx 0 (y :: rest').length = some 0 from sidx (i := 0) (by simp), bnd', show (y :: rest')[0]? = some y from rfl, bnd', show idx 0 (x :: rest).length = some 0 from sidx (i := 0) (by simp), bnd', show (x :: rest)[0]? = some x from rfl, bnd', show (y.1 == x.1) = true from beq_iff_eq.2 h3, cond_true, f9, bnd',
          show (errOf s == 0) = true from hg, cond_true]
end Go.Proofs.Ytemdppcnhlnicaa.Ev
