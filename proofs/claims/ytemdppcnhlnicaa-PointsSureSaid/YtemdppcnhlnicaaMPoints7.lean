/- Points: whether the first one is sure; the chapter's example. -/
import Derived.Test.YtemdppcnhlnicaaMPoints6
set_option linter.unusedVariables false
set_option linter.unusedSimpArgs false
namespace Go.Proofs.Ytemdppcnhlnicaa.Ev
open Go
/-! ### What stands in a table -/
theorem tab_perm (s : Sca) (l : List Rnd) : (tab s l).Perm ((seen l).map (rowOf s (lng l) l)) := List.mergeSort_perm _ _
theorem tab_srt (s : Sca) (l : List Rnd) : Srt (tab s l) := List.pairwise_mergeSort rowLe_trans rowLe_total _
theorem mem_tab {s : Sca} {l : List Rnd} {x : TRow} : x ∈ tab s l ↔ ∃ c ∈ seen l, rowOf s (lng l) l c = x := by rw [(tab_perm s l).mem_iff, List.mem_map]
theorem tab_len (s : Sca) (l : List Rnd) : (tab s l).length = (seen l).length := by rw [(tab_perm s l).length_eq, List.length_map]
theorem tab_cars (s : Sca) (l : List Rnd) : ((tab s l).map (·.1)).Nodup := ((tab_perm s l).map (·.1)).nodup_iff.2 (rows_nodup ..)
theorem tab_pts {s : Sca} {l : List Rnd} {x : TRow} (h : x ∈ tab s l) : x.2.1 = (l.map fun r => pt s r x.1).sum := by
  obtain ⟨c, _, rfl⟩ := mem_tab.1 h
  rw [rowOf_pts, rowOf_car]
theorem tab_bound {s : Sca} {l : List Rnd} {x : TRow} (h : x ∈ tab s l) : 0 ≤ x.2.1 ∧ x.2.1 ≤ 2000 * (l.length : Int) := by rw [tab_pts h]; exact sum_bound ..
theorem rowLe_pts {a b : TRow} (h : rowLe a b = true) : b.2.1 ≤ a.2.1 := by
  rw [rowLe_iff] at h
  by_cases h2 : a.2.1 < b.2.1
  · refine absurd ?_ h
    have z : cmpI a.2.1 b.2.1 = -1 := by unfold cmpI; rw [if_pos h2]
    unfold cmpRow orI
    rw [z, if_neg (by decide)]; decide
  · omega
/-! ### The most that a place brings -/
def mx (m x : Int) : Int := if x > m then x else m
def top (s : Sca) : Int := s.1.foldl mx 0
theorem mx_fold (l : List Int) : ∀ m : Int, m ≤ l.foldl mx m ∧ (∀ x ∈ l, x ≤ l.foldl mx m) ∧ ∀ b, m ≤ b → (∀ x ∈ l, x ≤ b) → l.foldl mx m ≤ b := by
  induction l with
  | nil => intro m; exact ⟨Int.le_refl _, (fun x h => by cases h), fun b h _ => h⟩
  | cons a l ih =>
    intro m
    obtain ⟨h1, h2, h3⟩ := ih (mx m a)
    have e : m ≤ mx m a ∧ a ≤ mx m a := by unfold mx; split <;> omega
    refine ⟨by rw [List.foldl_cons]; omega, fun x hx => ?_, fun b hb hx => ?_⟩
    · rw [List.foldl_cons]
      rcases List.mem_cons.1 hx with rfl | h
      · omega
      · exact h2 x h
    · rw [List.foldl_cons]
      refine h3 b ?_ (fun x h => hx x (List.mem_cons_of_mem _ h))
      have := hx a (List.mem_cons_self ..)
      unfold mx; split <;> omega
theorem top_bound {s : Sca} (h : good s = true) : 0 ≤ top s ∧ top s ≤ 1000 :=
  ⟨(mx_fold s.1 0).1, (mx_fold s.1 0).2.2 1000 (by decide) (fun x hx => ((good_inv h).2.2.2 x hx).2)⟩
theorem pt_top {s : Sca} (h : good s = true) (r : Rnd) (c : Int) : pt s r c ≤ top s + s.2 := by
  have h1 := (good_inv h).2.2.1; have h2 := top_bound h
  unfold pt
  split
  · omega
  · rename_i k _
    rw [if_pos h]
    have h3 : s.1.getD k 0 ≤ top s := by
      by_cases hk : k < s.1.length
      · rw [gD_lt hk]; exact (mx_fold s.1 0).2.1 _ (List.getElem_mem hk)
      · rw [gD_ge (by omega)]; exact h2.1
    unfold sc
    split <;> omega
theorem k30 (l : List Int) (hl : l.length ≤ 60) : ∀ (rest pre : List Int) (n : Nat) (m : Int), l = pre ++ rest → K30_0 (n + rest.length + 1) (l, (m, (pre.length : Int))) = some (rest.foldl mx m) := by
  intro rest
  induction rest with
  | nil =>
    intro pre n m h
    subst h
    show B30_0_5 (K30_0 _) _ = _
    unfold B30_0_5
    simp only [lt_end, cond_false]; rfl
  | cons a rest ih =>
    intro pre n m h
    have ih' := ih (pre ++ [a]) n (mx m a) (by rw [h]; simp)
    subst h
    have hl' : pre.length + (rest.length + 1) ≤ 60 := by simpa using hl
    show B30_0_5 (K30_0 (n + (rest.length + 1))) _ = _
    unfold B30_0_5
    simp only [lt_mid, cond_true, rd_mid, bnd', w_mid pre a (by omega)]
    exact ih'
theorem f30 {s : Sca} (h : good s = true) : F30_0 s.1 = some (top s) := by
  have hg := good_inv h
  unfold top
  generalize hs : s.1 = l at hg ⊢
  cases l with
  | nil => simp only [List.length_nil] at hg; omega
  | cons a rest =>
    obtain ⟨n, hn⟩ : ∃ n, 1000 = n + rest.length + 1 := ⟨1000 - rest.length - 1, by have := hg.2.1; simp only [List.length_cons] at this; omega⟩
    have hk := k30 (a :: rest) (by have := hg.2.1; omega) rest [a] n a rfl
    show E30_0 (K30_0 1000) (a :: rest) = _
    unfold E30_0
    rw [decide_eq_false (by simp only [List.length_cons]; omega), cond_false, show rdx (a :: rest) 0 = some a from rfl, bnd', hn]
    refine hk.trans ?_
    rw [List.foldl_cons]
    have ha := hg.2.2.2 a (List.mem_cons_self ..)
    rw [show mx 0 a = a by unfold mx; split <;> omega]
/-! ### Sure -/
def second (t : List TRow) : Int := match t with | _ :: y :: _ => y.2.1 | _ => 0
def sureB (s : Sca) (l : List Rnd) (left : Int) : Bool := match tab s l with
  | [] => false
  | x :: rest => decide (0 ≤ left ∧ left ≤ 1000) && (good s && decide (x.2.1 > second (x :: rest) + left * (top s + s.2)))
theorem mul_bound {a b : Int} (ha : 0 ≤ a ∧ a ≤ 1000) (hb : 0 ≤ b ∧ b ≤ 2000) : 0 ≤ a * b ∧ a * b ≤ 2000000 := by
  have h1 := Int.mul_nonneg ha.1 hb.1
  have h2 := Int.mul_le_mul ha.2 hb.2 hb.1 (by omega)
  omega
theorem f16 (s : Sca) (l : List Rnd) (left : Int) (h : Small l) : F16_0 (s, (l, left)) = some (sureB s l left) := by
  have hb := fun x => tab_bound (s := s) (l := l) (x := x)
  have hl := h.1
  unfold F16_0 sureB
  rw [f14_0 s l h, bnd']
  simp only [f9, bnd', err_good']
  cases ht : tab s l with
  | nil => rfl
  | cons x rest =>
    rw [ht] at hb
    rw [show (((x :: rest).length : Int) == 0) = false from beq_eq_false_iff_ne.2 (by simp only [List.length_cons]; omega), cond_false]
    by_cases h1 : left < 0
    · rw [decide_eq_true h1, cond_true]; simp only []; rw [decide_eq_false (by omega)]; rfl
    · rw [decide_eq_false h1, cond_false]
      by_cases h2 : left > 1000
      · rw [decide_eq_true h2, cond_true]; simp only []; rw [decide_eq_false (by omega)]; rfl
      · rw [decide_eq_false h2, cond_false]
        simp only []
        rw [decide_eq_true (show 0 ≤ left ∧ left ≤ 1000 by omega), Bool.true_and]
        cases hg : good s with
        | false => rfl
        | true =>
          have hf := (good_inv hg).2.2.1; have htop := top_bound hg
          have hm := mul_bound (a := left) (b := top s + s.2) (by omega) (by omega)
          have hx := hb x (List.mem_cons_self ..)
          rw [Bool.not_true, cond_false, Bool.true_and, f30 hg]
          cases rest with
          | nil =>
            rw [decide_eq_false (by simp), cond_false]
            rw [show idx 0 ([x] : List TRow).length = some 0 from rfl, bnd']
            show some (decide (x.2.1 > IntKind.wrap .i64 (0 + IntKind.wrap .i64 (left * IntKind.wrap .i64 (top s + s.2))))) = _
            rw [w64 (x := top s + s.2) (by omega), w64 (x := left * (top s + s.2)) (by omega), w64 (by omega)]; rfl
          | cons y rest =>
            have hy := hb y (by simp)
            rw [decide_eq_true (by simp only [List.length_cons]; omega), cond_true]
            rw [show idx 1 (x :: y :: rest).length = some 1 from sidx (i := 1) (by simp), bnd', show idx 0 (x :: y :: rest).length = some 0 from sidx (i := 0) (by simp)]
            show some (decide (x.2.1 > IntKind.wrap .i64 (y.2.1 + IntKind.wrap .i64 (left * IntKind.wrap .i64 (top s + s.2))))) = _
            rw [w64 (x := top s + s.2) (by omega), w64 (x := left * (top s + s.2)) (by omega), w64 (by omega)]; rfl
theorem k17_6 (s : Sca) (hl : s.1.length ≤ 60) (left : Int) (t : List TRow) : ∀ (rest pre : List Int) (n : Nat) (m : Int), s.1 = pre ++ rest → (K17_0 (n + rest.length + 1)).1 ((left, (m, (pre.length : Int))), (t, s)) = (K17_0 n).2.1 ((left, (rest.foldl mx m, 1)), ([0], (t, s))) := by
  obtain ⟨l, fa⟩ := s
  simp only at hl
  intro rest
  induction rest with
  | nil =>
    intro pre n m h
    simp only at h
    subst h
    show B17_0_6 (K17_0 _) _ = _
    unfold B17_0_6
    simp only [lt_end, cond_false]; rfl
  | cons a rest ih =>
    intro pre n m h
    have ih' := ih (pre ++ [a]) n (mx m a) (by rw [h]; simp)
    simp only at h
    subst h
    have hl' : pre.length + (rest.length + 1) ≤ 60 := by simpa using hl
    show B17_0_6 (K17_0 (n + (rest.length + 1))) _ = _
    unfold B17_0_6
    simp only [lt_mid, cond_true, rd_mid, bnd', w_mid pre a (by omega)]
    exact ih'
theorem k17_11 (s : Sca) (left m : Int) (t : List TRow) (ht : t.length ≤ 10000) : ∀ (rest pre : List TRow) (os : List Int) (n : Nat), t = pre ++ rest → os.length ≤ pre.length → (K17_0 (n + rest.length + 1)).2.1 ((left, (m, (pre.length : Int))), (os, (t, s))) = (K17_0 n).2.2 ((left, (m, 0)), (os ++ rest.map (·.2.1), (t, s))) := by
  intro rest
  induction rest with
  | nil =>
    intro pre os n h ho
    subst h
    show B17_0_11 (K17_0 _) _ = _
    unfold B17_0_11
    simp only [lt_end, cond_false, List.map_nil, List.append_nil]
    rw [show decide ((pre.length : Int) < (pre.length : Int)) = false from decide_eq_false (by omega), cond_false]; rfl
  | cons a rest ih =>
    intro pre os n h ho
    have hl' : pre.length + (rest.length + 1) ≤ 10000 := by rw [h] at ht; simpa using ht
    have ih' := ih (pre ++ [a]) (os ++ [a.2.1]) n (by rw [h]; simp) (by simp; omega)
    subst h
    show B17_0_11 (K17_0 (n + (rest.length + 1))) _ = _
    unfold B17_0_11
    simp only [idx_rdx, lt_mid, cond_true, rd_mid, bnd', w_mid pre a (by omega)]
    rw [show chk (decide ((os.length + [a.2.1].length) * 8 ≤ 140737488355328)) = some () by rw [decide_eq_true (by simp only [List.length_singleton]; omega)]; rfl, bnd']
    refine ih'.trans ?_
    rw [List.map_cons, List.append_assoc]; rfl
theorem k17_15 (s : Sca) (left m : Int) (x : TRow) (t : List TRow) (W : Int) (hm : -1000000000 ≤ m + s.2 ∧ m + s.2 ≤ 1000000000) (hW : left * (m + s.2) = W) (hWb : -1000000000 ≤ W ∧ W ≤ 1000000000) (os : List Int) (hos : os.length ≤ 20000) (hob : ∀ o ∈ os, -1000000000 ≤ o ∧ o ≤ 1000000000) : ∀ (rest pre : List Int) (n : Nat), os = pre ++ rest → (K17_0 (n + rest.length + 1)).2.2 ((left, (m, (pre.length : Int))), (os, (x :: t, s))) = some (rest.all fun o => decide (x.2.1 > o + W)) := by
  intro rest
  induction rest with
  | nil =>
    intro pre n h
    subst h
    show B17_0_15 (K17_0 _) _ = _
    unfold B17_0_15
    simp only [lt_end, cond_false]; rfl
  | cons a rest ih =>
    intro pre n h
    have hl' : pre.length + (rest.length + 1) ≤ 20000 := by rw [h] at hos; simpa using hos
    have ih' := ih (pre ++ [a]) n (by rw [h]; simp)
    have ha := hob a (by rw [h]; simp)
    subst h
    show B17_0_15 (K17_0 (n + (rest.length + 1))) _ = _
    unfold B17_0_15
    simp only [idx_rdx, lt_mid, cond_true, rd_mid, bnd', w_mid pre a (by omega)]
    rw [show rdx (x :: t) 0 = some x from rfl, bnd', w64 (x := m + s.2) (by omega), hW, w64 (x := W) (by omega), w64 (x := a + W) (by omega)]
    by_cases e : x.2.1 ≤ a + W
    · rw [decide_eq_true e, cond_true, List.all_cons, decide_eq_false (show ¬ x.2.1 > a + W by omega)]; rfl
    · rw [decide_eq_false e, cond_false, List.all_cons, decide_eq_true (show x.2.1 > a + W by omega), Bool.true_and]
      exact ih'
theorem all_second {x : TRow} {rest : List TRow} (hs : Srt (x :: rest)) (hb : ∀ y ∈ x :: rest, 0 ≤ y.2.1) (W : Int) : ((0 :: rest.map (·.2.1)).all fun o => decide (x.2.1 > o + W)) = decide (x.2.1 > second (x :: rest) + W) := by
  cases rest with
  | nil => simp [second]
  | cons y rest =>
    have hy := hb y (by simp)
    unfold second
    by_cases h : x.2.1 > y.2.1 + W
    · rw [decide_eq_true h]
      rw [List.all_eq_true]
      intro o ho
      rw [decide_eq_true_eq]
      rcases List.mem_cons.1 ho with rfl | ho
      · omega
      · obtain ⟨z, hz, rfl⟩ := List.mem_map.1 ho
        rcases List.mem_cons.1 hz with rfl | hz
        · exact h
        · have h2 := (List.pairwise_cons.1 hs).2
          have h3 := rowLe_pts ((List.pairwise_cons.1 h2).1 z hz)
          omega
    · rw [decide_eq_false h]
      rw [List.all_eq_false]
      exact ⟨y.2.1, by simp, by rw [decide_eq_true_eq]; exact h⟩
theorem f17 (s : Sca) (l : List Rnd) (left : Int) (h : Small l) (h30 : l.length ≤ 30) : F17_0 (s, (l, left)) = some (sureB s l left) := by
  have hb := fun x => tab_bound (s := s) (l := l) (x := x)
  have hl := h.1
  have hsrt := tab_srt s l
  have hlen := tab_len s l
  have hsl := seen_len h
  show E17_0 (K17_0 20000) (s, (l, left)) = _
  unfold E17_0 sureB
  rw [f15_0 s l h h30, bnd']
  simp only [f10, bnd', err_good']
  cases ht : tab s l with
  | nil => rfl
  | cons x rest =>
    rw [ht] at hb hsrt hlen
    rw [show (((x :: rest).length : Int) == 0) = false from beq_eq_false_iff_ne.2 (by simp only [List.length_cons]; omega), cond_false]
    by_cases h1 : left < 0
    · rw [decide_eq_true h1, cond_true]; simp only []; rw [decide_eq_false (by omega)]; rfl
    · rw [decide_eq_false h1, cond_false]
      by_cases h2 : left > 1000
      · rw [decide_eq_true h2, cond_true]; simp only []; rw [decide_eq_false (by omega)]; rfl
      · rw [decide_eq_false h2, cond_false]
        simp only []
        rw [decide_eq_true (show 0 ≤ left ∧ left ≤ 1000 by omega), Bool.true_and]
        cases hg : good s with
        | false => rfl
        | true =>
          have hgi := good_inv hg
          have hf := hgi.2.2.1; have htop := top_bound hg
          have hm := mul_bound (a := left) (b := top s + s.2) (by omega) (by omega)
          rw [List.length_cons] at hlen
          obtain ⟨n, hn⟩ : ∃ n, 20000 = ((n + (0 :: rest.map (·.2.1)).length + 1) + rest.length + 1) + s.1.length + 1 := ⟨20000 - s.1.length - rest.length - rest.length - 4, by simp only [List.length_cons, List.length_map]; omega⟩
          have e1 := k17_6 s (by omega) left (x :: rest) s.1 [] ((n + (0 :: rest.map (·.2.1)).length + 1) + rest.length + 1) 0 rfl
          have e2 := k17_11 s left (top s) (x :: rest) (by rw [List.length_cons]; omega) rest [x] [0] (n + (0 :: rest.map (·.2.1)).length + 1) rfl (by simp)
          have e3 := k17_15 s left (top s) x rest (left * (top s + s.2)) (by omega) rfl (by omega) (0 :: rest.map (·.2.1)) (by simp only [List.length_cons, List.length_map]; omega) (by
            intro o ho
            rcases List.mem_cons.1 ho with rfl | ho
            · omega
            · obtain ⟨z, hz, rfl⟩ := List.mem_map.1 ho
              have := hb z (List.mem_cons_of_mem _ hz)
              omega) (0 :: rest.map (·.2.1)) [] n rfl
          rw [Bool.not_true, cond_false, Bool.true_and, hn]
          rw [all_second hsrt (fun y hy => (hb y hy).1)] at e3
          exact e1.trans (e2.trans e3)
/-! ### Rows of whole numbers are the same -/
theorem k18 (l : List Int) (hl : l.length ≤ 60) : ∀ (rest pre : List Int) (n : Nat), l = pre ++ rest → K18_0 (n + rest.length + 1) (l, (l, (pre.length : Int))) = some true := by
  intro rest
  induction rest with
  | nil =>
    intro pre n h
    subst h
    show B18_0_4 (K18_0 _) _ = _
    unfold B18_0_4
    simp only [lt_end, cond_false]
  | cons a rest ih =>
    intro pre n h
    have ih' := ih (pre ++ [a]) n (by rw [h]; simp)
    subst h
    have hl' : pre.length + (rest.length + 1) ≤ 60 := by simpa using hl
    show B18_0_4 (K18_0 (n + (rest.length + 1))) _ = _
    unfold B18_0_4
    simp only [lt_mid, cond_true, rd_mid, bnd', w_mid pre a (by omega), bne_self_eq_false, cond_false]
    exact ih'
theorem f18 (l : List Int) (hl : l.length ≤ 60) : F18_0 (l, l) = some true := by
  obtain ⟨n, hn⟩ : ∃ n, 1000 = n + l.length + 1 := ⟨1000 - l.length - 1, by omega⟩
  have := k18 l hl l [] n rfl
  show E18_0 (K18_0 1000) (l, l) = _
  unfold E18_0
  simp only [bne_self_eq_false, cond_false]
  rw [hn]
  exact this
/-! ### The chapter's example -/
def sEx : Sca := ([10, 6], 1)
def lEx : List Rnd := [([7, 3], 3), ([3, 7, 5], -1)]
def tEx : List TRow := [(3, (17, [1, 1, 0])), (7, (16, [1, 1, 0])), (5, (0, [0, 0, 1]))]
theorem lEx_small : Small lEx := by unfold Small lEx; decide
theorem rowsEx : (seen lEx).map (rowOf sEx (lng lEx) lEx) = [(7, (16, [1, 1, 0])), (3, (17, [1, 1, 0])), (5, (0, [0, 0, 1]))] := by decide +kernel
theorem tabEx : tab sEx lEx = tEx := by
  have h : tEx = ((seen lEx).map (rowOf sEx (lng lEx) lEx)).mergeSort rowLe := srt_unique (rows_nodup ..) (by rw [rowsEx]; exact List.Perm.swap ..) (by unfold Srt tEx; decide +kernel)
  exact h.symm
theorem awake48 : F13_0 () = some true := by
  have a0 : F14_1 (1, (lEx, [10, 6])) = some (tEx, ([10, 6], lEx)) := by have := f14_1 sEx lEx lEx_small; rw [tabEx] at this; exact this
  have a1 : F18_0 ([0, 0, 1], [0, 0, 1]) = some true := f18 _ (by decide)
  have a2 : F11_0 (([10, 6], 1), (([7, 3], 3), 3)) = some 7 := (f11 ([10, 6], 1) ([7, 3], 3) 3 (by decide)).trans (by decide +kernel)
  have a3 : F16_0 (([10, 6], 1), (lEx, 0)) = some true := (f16 sEx lEx 0 lEx_small).trans (by unfold sureB; rw [tabEx]; decide +kernel)
  have a4 : F16_0 (([10, 6], 1), (lEx, 1)) = some false := (f16 sEx lEx 1 lEx_small).trans (by unfold sureB; rw [tabEx]; decide +kernel)
  unfold F13_0
  rw [show F14_1 (1, ([([7, 3], 3), ([3, 7, 5], -1)], [10, 6])) = some (tEx, ([10, 6], lEx)) from a0, bnd']
  have i0 : idx 0 tEx.length = some 0 := rfl
  have i1 : idx 1 tEx.length = some 1 := rfl
  have i2 : idx 2 tEx.length = some 2 := rfl
  have i3 : idx 0 lEx.length = some 0 := rfl
  simp only [i0, i1, i2, i3, bnd', show tEx[0]? = some (3, (17, [1, 1, 0])) from rfl, show tEx[1]? = some (7, (16, [1, 1, 0])) from rfl, show tEx[2]? = some (5, (0, [0, 0, 1])) from rfl, show lEx[0]? = some ([7, 3], 3) from rfl, a1, a2, a3, a4]
  rfl
end Go.Proofs.Ytemdppcnhlnicaa.Ev
