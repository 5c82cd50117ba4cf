/- Points: the document's table: its rows, who stands ahead, and the table in each of its tellings. -/
import Derived.Test.YtemdppcnhlnicaaMPoints3
set_option linter.unusedVariables false
set_option linter.unusedSimpArgs false
namespace Go.Proofs.Ytemdppcnhlnicaa.Ev
open Go
/-! ### Is a car met? -/
theorem k27 (l : List TRow) (c : Int) (hl : l.length ≤ 10000) : ∀ (rest pre : List TRow) (n : Nat), l = pre ++ rest → K27_0 (n + rest.length + 1) (l, (c, (pre.length : Int))) = some (decide (c ∈ rest.map (·.1))) := by
  intro rest
  induction rest with
  | nil =>
    intro pre n h
    subst h
    show B27_0_2 (K27_0 _) _ = _
    unfold B27_0_2
    simp only [lt_end, cond_false]; rfl
  | cons a rest ih =>
    intro pre n h
    have ih' := ih (pre ++ [a]) n (by rw [h]; simp)
    subst h
    have hl' : pre.length + (rest.length + 1) ≤ 10000 := by simpa using hl
    show B27_0_2 (K27_0 (n + (rest.length + 1))) _ = _
    unfold B27_0_2
    simp only [lt_mid, cond_true, rd_mid, bnd', w_mid pre a (by omega)]
    rw [show n + (rest.length + 1) = n + rest.length + 1 by omega, ih']
    by_cases e : a.1 = c
    · rw [show (a.1 == c) = true from beq_iff_eq.2 e, cond_true]; simp [e]
    · rw [show (a.1 == c) = false by simpa using e, cond_false]
      have e' : ¬ c = a.1 := fun h => e h.symm
      simp [e']
theorem f27 (l : List TRow) (c : Int) (hl : l.length ≤ 10000) : F27_0 (l, c) = some (decide (c ∈ l.map (·.1))) := by
  obtain ⟨n, hn⟩ : ∃ n, 20000 = n + l.length + 1 := ⟨20000 - l.length - 1, by omega⟩
  have := k27 l c hl l [] n rfl
  rw [← hn] at this
  exact this
/-! ### A car's row -/
def out28 (row : TRow) : (Int × Int) × List Int := ((row.1, row.2.1), row.2.2)
theorem k28_in (s : Sca) (l : List Rnd) (c : Int) (hl : l.length ≤ 60) (z1 : Int × Int) (z2 : List Int) (pre : List Rnd) (r : Rnd) (rest : List Rnd) (h : l = pre ++ r :: rest) (hr : r.1.length ≤ 60) (m : Nat) (hrm : r.1.length ≤ m) (car p : Int)
    (hrest : ∀ (f : Nat) (t : List Int), t.length = m → (∀ j, 0 ≤ t.getD j 0 ∧ t.getD j 0 ≤ ((pre ++ [r]).length : Int)) → cost rest < f → (K28_0 f).1 ((l, (c, ((pre ++ [r]).length : Int))), ((car, p), (t, (z1, (z2, s))))) = some (out28 (rest.foldl (rowStep s) (car, (p, t))))) (t : List Int) (ht : t.length = m) (htb : ∀ j, 0 ≤ t.getD j 0 ∧ t.getD j 0 ≤ (pre.length : Int)) :
    ∀ (q pq : List Int) (f : Nat), r.1 = pq ++ q → q.length + 1 + cost rest < f → (K28_0 f).2 ((l, (c, ((pre.length : Int), (pq.length : Int)))), ((car, p), (t, (z1, (z2, s))))) = some (out28 (rest.foldl (rowStep s) (car, (p, match plc q c with | none => t | some j => t.set (pq.length + j) (t.getD (pq.length + j) 0 + 1))))) := by
  have hlen : pre.length + (rest.length + 1) ≤ 60 := by rw [h] at hl; simpa using hl
  have hrd : rdx l (pre.length : Int) = some r := by rw [h]; exact rd_mid ..
  have htb2 : ∀ j, 0 ≤ t.getD j 0 ∧ t.getD j 0 ≤ ((pre ++ [r]).length : Int) := fun j => by have := htb j; rw [List.length_append, List.length_singleton]; omega
  intro q
  induction q with
  | nil =>
    intro pq f hq hf
    obtain ⟨f, rfl⟩ : ∃ g, f = g + 1 := ⟨f - 1, by omega⟩
    have := hrest f t ht htb2 (by omega)
    show B28_0_7 (K28_0 f) _ = _
    unfold B28_0_7
    simp only [hrd, bnd', w_mid pre r (by omega)]
    rw [hq]
    simp only [lt_end, cond_false]
    exact this
  | cons a q ih =>
    intro pq f hq hf
    obtain ⟨f, rfl⟩ : ∃ g, f = g + 1 := ⟨f - 1, by omega⟩
    have hql : pq.length + (q.length + 1) ≤ 60 := by rw [hq] at hr; simpa using hr
    have hqm : pq.length + (q.length + 1) ≤ m := by rw [hq] at hrm; simpa using hrm
    show B28_0_7 (K28_0 f) _ = _
    unfold B28_0_7
    simp only [hrd, bnd', w_mid pre r (by omega)]
    rw [hq]
    simp only [lt_mid, cond_true, rd_mid, bnd', w_mid pq a (by omega)]
    rw [plc_cons]
    by_cases e : a = c
    · rw [show (a == c) = true from beq_iff_eq.2 e, cond_true, if_pos e, sidx (show pq.length < t.length by omega), bnd', get_getD (show pq.length < t.length by omega), bnd', bnd', get_getD (show pq.length < t.length by omega), bnd', w64 (show _ ∧ _ by have := htb pq.length; omega)]
      simp only [Nat.add_zero]
      refine hrest f _ (by simpa using ht) (fun j => ?_) (by omega)
      rw [getD_set, List.length_append, List.length_singleton]
      have h1 := htb j; have h2 := htb pq.length
      split <;> omega
    · rw [show (a == c) = false by simpa using e, cond_false, if_neg e]
      have ih' := ih (pq ++ [a]) f (by rw [hq]; simp) (by simp only [List.length_cons] at hf; omega)
      refine ih'.trans ?_
      cases plc q c with
      | none => rfl
      | some j => simp only [Option.map_some, List.length_append, List.length_singleton]; rw [show pq.length + 1 + j = pq.length + (j + 1) by omega]
theorem k28_out (s : Sca) (l : List Rnd) (c : Int) (hl : Small l) (z1 : Int × Int) (z2 : List Int) (m : Nat) (hm : ∀ r ∈ l, r.1.length ≤ m) : ∀ (rest pre : List Rnd) (f : Nat) (p : Int) (t : List Int), l = pre ++ rest → t.length = m → (∀ j, 0 ≤ t.getD j 0 ∧ t.getD j 0 ≤ (pre.length : Int)) → 0 ≤ p → p ≤ 2000 * (pre.length : Int) → cost rest < f →
    (K28_0 f).1 ((l, (c, (pre.length : Int))), ((c, p), (t, (z1, (z2, s))))) = some (out28 (rest.foldl (rowStep s) (c, (p, t)))) := by
  intro rest
  induction rest with
  | nil =>
    intro pre f p t h ht htb hp1 hp2 hf
    obtain ⟨f, rfl⟩ : ∃ g, f = g + 1 := ⟨f - 1, by omega⟩
    subst h
    show B28_0_3 (K28_0 f) _ = _
    unfold B28_0_3
    simp only [lt_end, cond_false]; rfl
  | cons r rest ih =>
    intro pre f p t h ht htb hp1 hp2 hf
    obtain ⟨f, rfl⟩ : ∃ g, f = g + 1 := ⟨f - 1, by omega⟩
    have hlen : pre.length + (rest.length + 1) ≤ 60 := by have := hl.1; rw [h] at this; simpa using this
    have hr : r.1.length ≤ 60 := hl.2 r (by rw [h]; simp)
    have hrm : r.1.length ≤ m := hm r (by rw [h]; simp)
    have hb := pt_bound s r c
    have hc : cost (r :: rest) = r.1.length + 2 + cost rest := by unfold cost; simp only [List.map_cons, List.sum_cons]
    have ih' := fun (f : Nat) (t : List Int) (h1 : t.length = m) (h2 : ∀ j, 0 ≤ t.getD j 0 ∧ t.getD j 0 ≤ ((pre ++ [r]).length : Int)) (h3 : cost rest < f) => ih (pre ++ [r]) f (p + pt s r c) t (by rw [h]; simp) h1 h2 (by omega) (by rw [List.length_append, List.length_singleton]; omega) h3
    have hin := k28_in s l c hl.1 z1 z2 pre r rest h hr m hrm c (p + pt s r c) ih' t ht htb r.1 [] f rfl (by omega)
    have hlt : decide ((pre.length : Int) < (l.length : Int)) = true := by rw [h]; exact lt_mid ..
    have hrd : rdx l (pre.length : Int) = some r := by rw [h]; exact rd_mid ..
    show B28_0_3 (K28_0 f) _ = _
    unfold B28_0_3
    simp only [hlt, cond_true, hrd, bnd', f12 s r c hr, w64 (show -9223372036854775808 ≤ p + pt s r c ∧ p + pt s r c ≤ 9223372036854775807 by omega)]
    refine hin.trans ?_
    rw [List.foldl_cons]
    congr 3
    unfold rowStep upd
    simp only [List.length_nil, Nat.zero_add]
    cases hq : plc r.1 c with
    | none => simp [pt, hq]
    | some j => simp [pt, hq]
theorem f28 (s : Sca) (l : List Rnd) (c : Int) (hl : Small l) (m : Nat) (hm : ∀ r ∈ l, r.1.length ≤ m) (hm2 : m ≤ 60) : F28_0 (s, (l, (c, (m : Int)))) = some (out28 (rowOf s m l c)) := by
  have h1 := cost_le hl
  show E28_0 (K28_0 20000) _ = _
  unfold E28_0
  simp only []
  rw [show chk (decide (0 ≤ (m : Int) ∧ (m : Int) ≤ m ∧ (m : Int) * 8 ≤ 140737488355328 ∧ (m : Int) ≤ 9223372036854775807)) = some () by rw [decide_eq_true (by omega)]; rfl, bnd', Int.toNat_natCast]
  exact k28_out s l c hl _ _ m hm l [] 20000 0 (List.replicate m 0) rfl (by simp) (fun j => by
    simp only [List.getD_eq_getElem?_getD, List.getElem?_replicate]
    split <;> simp) (Int.le_refl _) (by simp) (by omega)
/-! ### Who stands ahead -/
theorem cmpI_neg (a b : Int) : decide (cmpI a b < 0) = decide (a < b) := by
  unfold cmpI
  by_cases h1 : a < b
  · simp [h1]
  · by_cases h2 : b < a <;> simp [h1, h2]
theorem k29 (x y : TRow) (hl : x.2.2.length = y.2.2.length) (h60 : x.2.2.length ≤ 60) : ∀ (d i f : Nat), i + d = x.2.2.length → d < f → K29_0 f ((i : Int), (y, x)) = some (decide (orI (cmpL (y.2.2.drop i) (x.2.2.drop i)) (cmpI x.1 y.1) < 0)) := by
  intro d
  induction d with
  | zero =>
    intro i f hi hf
    obtain ⟨f, rfl⟩ : ∃ g, f = g + 1 := ⟨f - 1, by omega⟩
    show B29_0_4 (K29_0 f) _ = _
    unfold B29_0_4
    rw [decide_eq_false (by simp only []; omega), cond_false, List.drop_eq_nil_of_le (by omega), List.drop_eq_nil_of_le (by omega)]
    show _ = some (decide (cmpI x.1 y.1 < 0))
    rw [cmpI_neg]
  | succ d ih =>
    intro i f hi hf
    obtain ⟨f, rfl⟩ : ∃ g, f = g + 1 := ⟨f - 1, by omega⟩
    have hx : i < x.2.2.length := by omega
    have hy : i < y.2.2.length := by omega
    have ih' := ih (i + 1) f (by omega) (by omega)
    have e1 : x.2.2.drop i = x.2.2[i] :: x.2.2.drop (i + 1) := (List.getElem_cons_drop (h := hx)).symm
    have e2 : y.2.2.drop i = y.2.2[i] :: y.2.2.drop (i + 1) := (List.getElem_cons_drop (h := hy)).symm
    show B29_0_4 (K29_0 f) _ = _
    unfold B29_0_4
    rw [decide_eq_true (by simp only []; omega), cond_true]
    simp only [srd hx, srd hy, bnd']
    rw [w64 (by omega), e1, e2, cmpL_cons]
    by_cases e : x.2.2[i] = y.2.2[i]
    · rw [show (x.2.2[i] != y.2.2[i]) = false by simp [e], cond_false]
      have z : cmpI y.2.2[i] x.2.2[i] = 0 := by unfold cmpI; simp [e]
      refine ih'.trans ?_
      congr 3
      rw [z]; rfl
    · rw [show (x.2.2[i] != y.2.2[i]) = true by simp [e], cond_true]
      have z : ¬ cmpI y.2.2[i] x.2.2[i] = 0 := fun h => e (cmpI_zero h).symm
      have z2 : orI (orI (cmpI y.2.2[i] x.2.2[i]) (cmpL (y.2.2.drop (i + 1)) (x.2.2.drop (i + 1)))) (cmpI x.1 y.1) = cmpI y.2.2[i] x.2.2[i] := by unfold orI; rw [if_neg z, if_neg z]
      rw [z2, cmpI_neg]
theorem f29 (x y : TRow) (hl : x.2.2.length = y.2.2.length) (h60 : x.2.2.length ≤ 60) : F29_0 (x, y) = some (decide (cmpRow x y < 0)) := by
  have hk := k29 x y hl h60 x.2.2.length 0 1000 (by omega) (by omega)
  show E29_0 (K29_0 1000) (x, y) = _
  unfold E29_0 cmpRow
  by_cases e : x.2.1 = y.2.1
  · simp only []
    rw [show (x.2.1 != y.2.1) = false by simp [e], cond_false]
    have z : cmpI y.2.1 x.2.1 = 0 := by unfold cmpI; simp [e]
    rw [z]
    refine hk.trans ?_
    rw [List.drop_zero, List.drop_zero]; rfl
  · simp only []
    rw [show (x.2.1 != y.2.1) = true by simp [e], cond_true]
    have z : ¬ cmpI y.2.1 x.2.1 = 0 := fun h => e (cmpI_zero h).symm
    rw [show orI (cmpI y.2.1 x.2.1) (orI (cmpL y.2.2 x.2.2) (cmpI x.1 y.1)) = cmpI y.2.1 x.2.1 by unfold orI; rw [if_neg z], cmpI_neg]
/-! ### Sorted tables -/
def Srt (l : List TRow) : Prop := l.Pairwise fun a b => rowLe a b = true
theorem srt_unique {xs ys : List TRow} (hn : (xs.map (·.1)).Nodup) (hp : ys.Perm xs) (hs : Srt ys) : ys = xs.mergeSort rowLe := by
  have h2 := List.pairwise_mergeSort rowLe_trans rowLe_total xs
  have hp2 : (xs.mergeSort rowLe).Perm xs := List.mergeSort_perm xs rowLe
  refine List.Perm.eq_of_pairwise (le := fun a b => rowLe a b = true) ?_ hs h2 (hp.trans hp2.symm)
  intro a b ha hb hab hba
  exact car_inj hn (hp.mem_iff.1 ha) (hp2.mem_iff.1 hb) (rowLe_anti hab hba)
theorem rowLe_iff {a b : TRow} : rowLe a b = true ↔ ¬ cmpRow b a < 0 := by simp [rowLe, ltOf]
theorem rowLe_of_lt {a b : TRow} (h : cmpRow a b < 0) : rowLe a b = true := by
  rw [rowLe_iff]; have := cmpRow_cmp.anti a b; omega
theorem srt_insert {out : List TRow} {x : TRow} {a : Nat} (hs : Srt out) (hd : ∀ y ∈ out.drop a, cmpRow x y < 0) (ht : ∀ y ∈ out.take a, rowLe y x = true) : Srt (out.take a ++ [x] ++ out.drop a) := by
  have h0 : Srt (out.take a ++ out.drop a) := by rw [List.take_append_drop]; exact hs
  unfold Srt at h0 ⊢
  rw [List.pairwise_append] at h0
  rw [List.append_assoc, List.pairwise_append]
  refine ⟨h0.1, ?_, ?_⟩
  · rw [List.singleton_append, List.pairwise_cons]
    exact ⟨fun y hy => rowLe_of_lt (hd y hy), h0.2.1⟩
  · intro y hy z hz
    rw [List.singleton_append, List.mem_cons] at hz
    rcases hz with rfl | hz
    · exact ht y hy
    · exact h0.2.2 y hy z hz
theorem perm_insert (out : List TRow) (x : TRow) (a : Nat) : (out.take a ++ [x] ++ out.drop a).Perm (out ++ [x]) := by
  have h : (out.take a ++ [x] ++ out.drop a).Perm (out.take a ++ out.drop a ++ [x]) := by
    rw [List.append_assoc, List.append_assoc]
    exact List.Perm.append_left _ (List.perm_append_comm)
  rw [List.take_append_drop] at h
  exact h
theorem srt_take {out : List TRow} {x : TRow} {a : Nat} (hs : Srt out) (ha : a < out.length) (h : ¬ cmpRow x out[a] < 0) : ∀ y ∈ out.take (a + 1), rowLe y x = true := by
  intro y hy
  obtain ⟨j, hj, rfl⟩ := List.getElem_of_mem hy
  rw [List.getElem_take]
  have hj' : j < a + 1 := by rw [List.length_take] at hj; omega
  by_cases e : j = a
  · subst e; exact rowLe_iff.2 h
  · have h1 := (List.pairwise_iff_getElem.1 hs) j a (by omega) ha (by omega)
    exact rowLe_trans _ _ _ h1 (rowLe_iff.2 h)
end Go.Proofs.Ytemdppcnhlnicaa.Ev
