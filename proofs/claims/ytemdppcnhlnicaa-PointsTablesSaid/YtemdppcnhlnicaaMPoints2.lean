/- Points: which cars there are, each one's row, and the program's table by them. -/
import Derived.Test.YtemdppcnhlnicaaMPoints1
set_option linter.unusedVariables false
set_option linter.unusedSimpArgs false
namespace Go.Proofs.Ytemdppcnhlnicaa.Ev
open Go
/-! ### The longest order -/
def lng (l : List Rnd) : Nat := l.foldl (fun m r => max m r.1.length) 0
theorem lng_fold (l : List Rnd) : ∀ m : Nat, m ≤ l.foldl (fun m r => max m r.1.length) m ∧ ∀ r ∈ l, r.1.length ≤ l.foldl (fun m r => max m r.1.length) m := by
  induction l with
  | nil => intro m; exact ⟨Nat.le_refl _, fun r h => by cases h⟩
  | cons a l ih =>
    intro m
    obtain ⟨h1, h2⟩ := ih (max m a.1.length)
    simp only [List.foldl_cons]
    refine ⟨by omega, fun r hr => ?_⟩
    rcases List.mem_cons.1 hr with rfl | h
    · omega
    · exact h2 r h
theorem lng_ge {l : List Rnd} {r : Rnd} (h : r ∈ l) : r.1.length ≤ lng l := (lng_fold l 0).2 r h
theorem lng_le {b : Nat} (l : List Rnd) (h : ∀ r ∈ l, r.1.length ≤ b) : lng l ≤ b := by
  have : ∀ (l : List Rnd) (m : Nat), m ≤ b → (∀ r ∈ l, r.1.length ≤ b) → l.foldl (fun m r => max m r.1.length) m ≤ b := by
    intro l
    induction l with
    | nil => intro m h _; exact h
    | cons a l ih =>
      intro m h h2
      simp only [List.foldl_cons]
      exact ih _ (by have := h2 a (List.mem_cons_self ..); omega) (fun r hr => h2 r (List.mem_cons_of_mem _ hr))
  exact this l 0 (Nat.zero_le _) h
def Small (l : List Rnd) : Prop := l.length ≤ 60 ∧ ∀ r ∈ l, r.1.length ≤ 60
theorem Few.small {s : Sca} {l : List Rnd} (h : Few s l) : Small l := ⟨by have := h.1; omega, h.2.2⟩
theorem max_if (a m : Nat) : (if (a : Int) > (m : Int) then (a : Int) else (m : Int)) = ((max m a : Nat) : Int) := by split <;> omega
theorem k24 (l : List Rnd) (hl : l.length ≤ 60) : ∀ (rest pre : List Rnd) (n m : Nat), l = pre ++ rest → K24_0 (n + rest.length + 1) ((m : Int), (l, ((l.length : Int), (pre.length : Int)))) = some ((rest.foldl (fun m r => max m r.1.length) m : Nat) : Int) := by
  intro rest
  induction rest with
  | nil =>
    intro pre n m h
    subst h
    show B24_0_3 (K24_0 _) _ = _
    unfold B24_0_3
    simp only [lt_end, cond_false]; rfl
  | cons a rest ih =>
    intro pre n m h
    have ih' := ih (pre ++ [a]) n (max m a.1.length) (by rw [h]; simp)
    subst h
    have hl' : pre.length + (rest.length + 1) ≤ 60 := by simpa using hl
    show B24_0_3 (K24_0 (n + (rest.length + 1))) _ = _
    unfold B24_0_3
    simp only [lt_mid, cond_true, rd_mid, bnd', w_mid pre a (by omega), max_if]
    exact ih'
theorem f24 (l : List Rnd) (hl : l.length ≤ 60) : F24_0 l = some ((lng l : Nat) : Int) := by
  obtain ⟨n, hn⟩ : ∃ n, 1000 = n + l.length + 1 := ⟨1000 - l.length - 1, by omega⟩
  have := k24 l hl l [] n 0 rfl
  rw [← hn] at this
  exact this
/-! ### Rows -/
def upd (s : Sca) (r : Rnd) (row : TRow) (k : Nat) : TRow := (row.1, (row.2.1 + (if good s then sc s r row.1 k else 0), row.2.2.set k (row.2.2.getD k 0 + 1)))
def rowStep (s : Sca) (row : TRow) (r : Rnd) : TRow := match plc r.1 row.1 with | none => row | some k => upd s r row k
def fresh (m : Nat) (c : Int) : TRow := (c, (0, List.replicate m 0))
def rowOf (s : Sca) (m : Nat) (l : List Rnd) (c : Int) : TRow := l.foldl (rowStep s) (fresh m c)
theorem rowOf_snoc (s : Sca) (m : Nat) (l : List Rnd) (r : Rnd) (c : Int) : rowOf s m (l ++ [r]) c = rowStep s (rowOf s m l c) r := by simp [rowOf, List.foldl_append]
theorem rowStep_car (s : Sca) (row : TRow) (r : Rnd) : (rowStep s row r).1 = row.1 := by unfold rowStep; split <;> rfl
theorem rowOf_car (s : Sca) (m : Nat) (l : List Rnd) (c : Int) : (rowOf s m l c).1 = c := by
  have : ∀ (l : List Rnd) (row : TRow), (l.foldl (rowStep s) row).1 = row.1 := by
    intro l
    induction l with
    | nil => intro row; rfl
    | cons r l ih => intro row; rw [List.foldl_cons, ih, rowStep_car]
  exact this l _
theorem rowOf_len (s : Sca) (m : Nat) (l : List Rnd) (c : Int) : (rowOf s m l c).2.2.length = m := by
  have : ∀ (l : List Rnd) (row : TRow), (l.foldl (rowStep s) row).2.2.length = row.2.2.length := by
    intro l
    induction l with
    | nil => intro row; rfl
    | cons r l ih =>
      intro row
      rw [List.foldl_cons, ih]
      unfold rowStep upd
      split
      · rfl
      · simp
  rw [rowOf, this]; simp [fresh]
theorem rowStep_pts (s : Sca) (row : TRow) (r : Rnd) : (rowStep s row r).2.1 = row.2.1 + pt s r row.1 := by
  unfold rowStep pt upd
  cases plc r.1 row.1 with
  | none => simp
  | some k => rfl
theorem rowOf_pts (s : Sca) (m : Nat) (l : List Rnd) (c : Int) : (rowOf s m l c).2.1 = (l.map fun r => pt s r c).sum := by
  have : ∀ (l : List Rnd) (row : TRow), (l.foldl (rowStep s) row).2.1 = row.2.1 + (l.map fun r => pt s r row.1).sum := by
    intro l
    induction l with
    | nil => intro row; simp
    | cons r l ih =>
      intro row
      rw [List.foldl_cons, ih, rowStep_pts, rowStep_car, List.map_cons, List.sum_cons]
      omega
  rw [rowOf, this]; simp [fresh]
theorem sum_bound (s : Sca) (l : List Rnd) (c : Int) : 0 ≤ (l.map fun r => pt s r c).sum ∧ (l.map fun r => pt s r c).sum ≤ 2000 * (l.length : Int) := by
  induction l with
  | nil => simp
  | cons r l ih => have := pt_bound s r c; simp only [List.map_cons, List.sum_cons, List.length_cons]; omega
theorem getD_set (l : List Int) (k j : Nat) (x : Int) : (l.set k x).getD j 0 = if k = j ∧ j < l.length then x else l.getD j 0 := by
  simp only [List.getD_eq_getElem?_getD, List.getElem?_set]
  by_cases h : k = j
  · subst h
    by_cases h2 : k < l.length <;> simp [h2]
  · simp [h]
theorem rowStep_times (s : Sca) (row : TRow) (r : Rnd) (b : Int) (h : ∀ j, 0 ≤ row.2.2.getD j 0 ∧ row.2.2.getD j 0 ≤ b) : ∀ j, 0 ≤ (rowStep s row r).2.2.getD j 0 ∧ (rowStep s row r).2.2.getD j 0 ≤ b + 1 := by
  intro j
  unfold rowStep
  split
  · have := h j; omega
  · rename_i k _
    unfold upd
    simp only [getD_set]
    have h1 := h j; have h2 := h k
    split <;> omega
theorem rowOf_times (s : Sca) (m : Nat) (l : List Rnd) (c : Int) : ∀ j, 0 ≤ (rowOf s m l c).2.2.getD j 0 ∧ (rowOf s m l c).2.2.getD j 0 ≤ (l.length : Int) := by
  have : ∀ (l : List Rnd) (row : TRow) (b : Int), (∀ j, 0 ≤ row.2.2.getD j 0 ∧ row.2.2.getD j 0 ≤ b) → ∀ j, 0 ≤ (l.foldl (rowStep s) row).2.2.getD j 0 ∧ (l.foldl (rowStep s) row).2.2.getD j 0 ≤ b + (l.length : Int) := by
    intro l
    induction l with
    | nil => intro row b h j; have := h j; simp only [List.foldl_nil, List.length_nil]; omega
    | cons r l ih =>
      intro row b h j
      have := ih _ _ (rowStep_times s row r b h) j
      rw [List.foldl_cons, List.length_cons]
      omega
  intro j
  have h := this l (fresh m c) 0 (by
    intro j
    simp only [fresh, List.getD_eq_getElem?_getD, List.getElem?_replicate]
    split <;> simp) j
  rw [rowOf]; omega
/-! ### Which cars -/
def uniqF (acc : List Int) (c : Int) : List Int := if c ∈ acc then acc else acc ++ [c]
def uniq (l : List Int) : List Int := l.foldl uniqF []
theorem uniq_snoc (l : List Int) (c : Int) : uniq (l ++ [c]) = if c ∈ uniq l then uniq l else uniq l ++ [c] := by unfold uniq; rw [List.foldl_append]; rfl
theorem uniq_acc : ∀ (l acc : List Int), acc.Nodup → (l.foldl uniqF acc).Nodup ∧ (∀ x, x ∈ l.foldl uniqF acc ↔ x ∈ acc ∨ x ∈ l) ∧ (l.foldl uniqF acc).length ≤ acc.length + l.length := by
  intro l
  induction l with
  | nil => intro acc h; exact ⟨h, by simp, by simp⟩
  | cons c l ih =>
    intro acc h
    have h2 : (uniqF acc c).Nodup ∧ (∀ x, x ∈ uniqF acc c ↔ x ∈ acc ∨ x = c) ∧ (uniqF acc c).length ≤ acc.length + 1 := by
      unfold uniqF
      split
      · rename_i hc
        refine ⟨h, fun x => ⟨.inl, ?_⟩, by omega⟩
        rintro (h1 | rfl)
        · exact h1
        · exact hc
      · rename_i hc
        refine ⟨?_, by simp, by simp⟩
        rw [List.nodup_append]
        refine ⟨h, by simp, ?_⟩
        intro a ha b hb
        simp only [List.mem_singleton] at hb
        subst hb
        rintro rfl
        exact hc ha
    obtain ⟨a1, a2, a3⟩ := ih _ h2.1
    refine ⟨a1, fun x => ?_, ?_⟩
    · rw [List.foldl_cons, a2, h2.2.1, List.mem_cons, or_assoc]
    · rw [List.foldl_cons, List.length_cons]; have := h2.2.2; omega
theorem nodup_uniq (l : List Int) : (uniq l).Nodup := (uniq_acc l [] List.nodup_nil).1
theorem mem_uniq (l : List Int) (x : Int) : x ∈ uniq l ↔ x ∈ l := by rw [uniq, (uniq_acc l [] List.nodup_nil).2.1]; simp
theorem length_uniq (l : List Int) : (uniq l).length ≤ l.length := by have := (uniq_acc l [] List.nodup_nil).2.2; show (l.foldl uniqF []).length ≤ l.length; simpa using this
def seen (l : List Rnd) : List Int := uniq (l.flatMap (·.1))
theorem mem_seen {l : List Rnd} {x : Int} : x ∈ seen l ↔ ∃ r ∈ l, x ∈ r.1 := by rw [seen, mem_uniq, List.mem_flatMap]
theorem seen_len {l : List Rnd} (h : Small l) : (seen l).length ≤ 3600 := by
  have : ∀ l : List Rnd, (∀ r ∈ l, r.1.length ≤ 60) → (l.flatMap (·.1)).length ≤ 60 * l.length := by
    intro l
    induction l with
    | nil => intro _; simp
    | cons r l ih =>
      intro h
      have h1 := ih (fun r hr => h r (List.mem_cons_of_mem _ hr)); have h2 := h r (List.mem_cons_self ..)
      simp only [List.flatMap_cons, List.length_append, List.length_cons]; omega
  have h1 := this l h.2; have h2 := length_uniq (l.flatMap (·.1)); have h3 := h.1
  unfold seen; omega
theorem seen_snoc (D : List Rnd) (pre : List Int) (f : Int) (c : Int) : seen (D ++ [(pre ++ [c], f)]) = if c ∈ seen (D ++ [(pre, f)]) then seen (D ++ [(pre, f)]) else seen (D ++ [(pre, f)]) ++ [c] := by
  have e : (D ++ [(pre ++ [c], f)]).flatMap (·.1) = (D ++ [(pre, f)]).flatMap (·.1) ++ [c] := by simp [List.flatMap_append]
  unfold seen
  rw [e, uniq_snoc]
theorem seen_nil (D : List Rnd) (f : Int) : seen (D ++ [([], f)]) = seen D := by unfold seen; simp [List.flatMap_append]
theorem plc_none {o : List Int} {c : Int} : plc o c = none ↔ c ∉ o := by
  induction o with
  | nil => simp [plc]
  | cons a o ih =>
    rw [plc_cons]
    by_cases h : a = c
    · simp [h]
    · have : c ≠ a := fun h2 => h h2.symm
      simp [h, ih, this]
theorem plc_snoc (o : List Int) (c x : Int) : plc (o ++ [c]) x = if x ∈ o then plc o x else if c = x then some o.length else none := by
  induction o with
  | nil => simp [plc_cons]; split <;> simp [plc]
  | cons a o ih =>
    rw [List.cons_append, plc_cons, plc_cons, ih]
    by_cases h : a = x
    · simp [h]
    · have h' : ¬ x = a := fun h2 => h h2.symm
      by_cases h2 : x ∈ o
      · simp [h, h', h2]
      · by_cases h3 : c = x <;> simp [h, h', h2, h3]
theorem plc_lt {o : List Int} {c : Int} {k : Nat} (h : plc o c = some k) : k < o.length := by
  unfold plc at h
  exact (List.findIdx?_eq_some_iff_findIdx_eq.1 h).1
theorem rowOf_fresh (s : Sca) (m : Nat) : ∀ (l : List Rnd) (c : Int), (∀ r ∈ l, c ∉ r.1) → rowOf s m l c = fresh m c := by
  intro l c h
  have : ∀ (l : List Rnd) (row : TRow), (∀ r ∈ l, row.1 ∉ r.1) → l.foldl (rowStep s) row = row := by
    intro l
    induction l with
    | nil => intro row _; rfl
    | cons r l ih =>
      intro row h
      have e : rowStep s row r = row := by unfold rowStep; rw [plc_none.2 (h r (List.mem_cons_self ..))]
      rw [List.foldl_cons, e]
      exact ih row (fun r hr => h r (List.mem_cons_of_mem _ hr))
  exact this l _ h
theorem rowOf_nil (s : Sca) (m : Nat) (D : List Rnd) (f c : Int) : rowOf s m (D ++ [([], f)]) c = rowOf s m D c := by rw [rowOf_snoc]; rfl
theorem rowOf_step (s : Sca) (m : Nat) (D : List Rnd) (pre o : List Int) (f c x : Int) : rowOf s m (D ++ [(pre ++ [c], f)]) x = if x = c ∧ c ∉ pre then upd s (o, f) (rowOf s m (D ++ [(pre, f)]) x) pre.length else rowOf s m (D ++ [(pre, f)]) x := by
  rw [rowOf_snoc, rowOf_snoc]
  unfold rowStep
  simp only [rowOf_car, plc_snoc]
  by_cases h : x ∈ pre
  · rw [if_pos h, if_neg (by rintro ⟨rfl, h2⟩; exact h2 h)]; rfl
  · rw [if_neg h]
    by_cases e : c = x
    · subst e
      rw [if_pos rfl, if_pos ⟨rfl, h⟩, plc_none.2 h]; rfl
    · rw [if_neg e, if_neg (fun hh => e hh.1.symm), plc_none.2 h]
/-! ### Entries of a map -/
abbrev Ents : Type := List (Int × TRow)
def entsOf (s : Sca) (m : Nat) (l : List Rnd) : Ents := (seen l).map fun c => (c, rowOf s m l c)
theorem hasI_mem (k : Int) (l : List Int) : hasI k l = decide (k ∈ l) := by
  induction l with
  | nil => rfl
  | cons a l ih =>
    unfold hasI
    by_cases h : k = a
    · simp [h]
    · simp [h, ih]
theorem keyS_none (c : Int) (g : Int → TRow) : ∀ cs : List Int, c ∉ cs → keyS c (cs.map fun x => (x, g x)) = .inr () := by
  intro cs
  induction cs with
  | nil => intro _; rfl
  | cons a cs ih =>
    intro h
    simp only [List.mem_cons, not_or] at h
    unfold keyS
    simp only [List.map_cons, h.1, decide_false, ih h.2]
theorem keyS_some (c : Int) (g : Int → TRow) : ∀ cs : List Int, c ∈ cs → cs.Nodup → ∃ i, keyS c (cs.map fun x => (x, g x)) = .inl (i, g c) ∧ ∀ y, setVal (cs.map fun x => (x, g x)) i y = cs.map fun x => (x, if x = c then y else g x) := by
  intro cs
  induction cs with
  | nil => intro h; cases h
  | cons a cs ih =>
    intro h hn
    rw [List.nodup_cons] at hn
    by_cases e : c = a
    · subst e
      refine ⟨0, ?_, fun y => ?_⟩
      · unfold keyS; simp
      · simp only [List.map_cons, setVal, if_true]
        congr 1
        apply List.map_congr_left
        intro x hx
        rw [if_neg (by rintro rfl; exact hn.1 hx)]
    · obtain ⟨i, h1, h2⟩ := ih (by rcases List.mem_cons.1 h with h | h; exact absurd h e; exact h) hn.2
      refine ⟨i + 1, ?_, fun y => ?_⟩
      · unfold keyS
        simp only [List.map_cons, e, decide_false, h1]
      · simp only [List.map_cons, setVal, h2]
        rw [if_neg (fun h => e h.symm)]
theorem setVal_end (c : Int) (r y : TRow) : ∀ xs : Ents, setVal (xs ++ [(c, r)]) xs.length y = xs ++ [(c, y)] := by
  intro xs
  induction xs with
  | nil => rfl
  | cons a xs ih => simp only [List.cons_append, List.length_cons, setVal, ih]
/-! ### One place of one order -/
def tstep (m : Int) (right : Bool) (s : Sca) (r : Rnd) (c k : Int) (met cars : List Int) (ents : Ents) : Option (List Int × List Int × Ents) :=
  bif hasI c met then some (met, cars, ents)
  else match keyS c ents with
    | .inl q => (idx k q.2.2.2.length).bind fun i => (q.2.2.2[i]?).bind fun x => (idx k q.2.2.2.length).bind fun j => (q.2.2.2[j]?).bind fun _ =>
      bif right then (F22_0 (s, (r, (c, k)))).bind fun p => some (addI c met, cars, setVal ents q.1 (q.2.1, (IntKind.wrap .i64 (q.2.2.1 + p), q.2.2.2.set j (IntKind.wrap .i64 (x + 1)))))
      else some (addI c met, cars, setVal ents q.1 (q.2.1, (q.2.2.1, q.2.2.2.set j (IntKind.wrap .i64 (x + 1)))))
    | .inr _ => (chk (decide (0 ≤ m ∧ m ≤ m ∧ m * 8 ≤ 140737488355328 ∧ m ≤ 9223372036854775807))).bind fun _ => (noKey c ents).bind fun _ => (chk (decide ((cars.length + [c].length) * 8 ≤ 140737488355328))).bind fun _ =>
      (idx k (List.replicate m.toNat (0 : Int)).length).bind fun i => ((List.replicate m.toNat (0 : Int))[i]?).bind fun x => (idx k (List.replicate m.toNat (0 : Int)).length).bind fun j => ((List.replicate m.toNat (0 : Int))[j]?).bind fun _ =>
      bif right then (F22_0 (s, (r, (c, k)))).bind fun p => some (addI c met, cars ++ [c], setVal (ents ++ [(c, (c, (0, List.replicate m.toNat (0 : Int))))]) ents.length (c, (IntKind.wrap .i64 (0 + p), (List.replicate m.toNat (0 : Int)).set j (IntKind.wrap .i64 (x + 1)))))
      else some (addI c met, cars ++ [c], setVal (ents ++ [(c, (c, (0, List.replicate m.toNat (0 : Int))))]) ents.length (c, (0, (List.replicate m.toNat (0 : Int)).set j (IntKind.wrap .i64 (x + 1)))))
theorem get_getD {l : List Int} {k : Nat} (h : k < l.length) : l[k]? = some (l.getD k 0) := by rw [gD_lt h, List.getElem?_eq_getElem h]
theorem bump_ok (s : Sca) (r : Rnd) (c : Int) (k m : Nat) (row : TRow) (hc : row.1 = c) (hl : row.2.2.length = m) (hk : k < m) (hp : 0 ≤ row.2.1 ∧ row.2.1 ≤ 1000000) (ht : 0 ≤ row.2.2.getD k 0 ∧ row.2.2.getD k 0 ≤ 1000000) {β : Type} (out : TRow → β) (out2 : β → Option β) :
    ((idx (k : Int) row.2.2.length).bind fun i => (row.2.2[i]?).bind fun x => (idx (k : Int) row.2.2.length).bind fun j => (row.2.2[j]?).bind fun _ =>
      bif good s then (F22_0 (s, (r, (c, (k : Int))))).bind fun p => some (out (row.1, (IntKind.wrap .i64 (row.2.1 + p), row.2.2.set j (IntKind.wrap .i64 (x + 1)))))
      else some (out (row.1, (row.2.1, row.2.2.set j (IntKind.wrap .i64 (x + 1)))))) = some (out (upd s r row k)) := by
  rw [sidx (by omega), bnd', get_getD (by omega), bnd', bnd', get_getD (by omega), bnd', w64 (show _ ∧ _ by omega)]
  unfold upd
  cases hg : good s with
  | false => simp
  | true =>
    have := sc_bound hg r c k
    rw [cond_true, f22 hg, bnd', w64 (show _ ∧ _ by omega), hc]; rfl
theorem tstep_ok (s : Sca) (D : List Rnd) (pre o : List Int) (f c : Int) (m : Nat) (met : List Int) (hmet : ∀ x, x ∈ met ↔ x ∈ pre) (hk : pre.length < m) (hm : m ≤ 60) (hD : D.length ≤ 60) (hs : (seen (D ++ [(pre, f)])).length ≤ 10000) :
    ∃ met', tstep m (good s) s (o, f) c pre.length met (seen (D ++ [(pre, f)])) (entsOf s m (D ++ [(pre, f)])) = some (met', (seen (D ++ [(pre ++ [c], f)]), entsOf s m (D ++ [(pre ++ [c], f)]))) ∧ ∀ x, x ∈ met' ↔ x ∈ pre ++ [c] := by
  have hrow := fun x => rowOf_step s m D pre o f c x
  have hseen := seen_snoc D pre f c
  have hlen : (D ++ [(pre, f)]).length ≤ 61 := by simp; omega
  have hp := fun x => rowOf_pts s m (D ++ [(pre, f)]) x
  have hpb := fun x => sum_bound s (D ++ [(pre, f)]) x
  have htb := fun x => rowOf_times s m (D ++ [(pre, f)]) x pre.length
  by_cases h1 : c ∈ pre
  · refine ⟨met, ?_, fun x => ?_⟩
    · unfold tstep
      rw [hasI_mem, decide_eq_true ((hmet c).2 h1), cond_true, hseen, if_pos (mem_seen.2 ⟨(pre, f), by simp, h1⟩)]
      congr 3
      unfold entsOf
      rw [hseen, if_pos (mem_seen.2 ⟨(pre, f), by simp, h1⟩)]
      apply List.map_congr_left
      intro x _
      rw [hrow x, if_neg (fun hh => hh.2 h1)]
    · rw [hmet]; simp only [List.mem_append, List.mem_singleton]
      exact ⟨.inl, fun h => by rcases h with h | rfl; exact h; exact h1⟩
  · have hadd : addI c met = met ++ [c] := by unfold addI; rw [hasI_mem, decide_eq_false (fun h => h1 ((hmet c).1 h))]
    refine ⟨met ++ [c], ?_, fun x => by simp only [List.mem_append, hmet]⟩
    unfold tstep
    rw [hasI_mem, decide_eq_false (fun h => h1 ((hmet c).1 h)), cond_false, hadd]
    by_cases h2 : c ∈ seen (D ++ [(pre, f)])
    · obtain ⟨i, e1, e2⟩ := keyS_some c (rowOf s m (D ++ [(pre, f)])) (seen (D ++ [(pre, f)])) h2 (nodup_uniq _)
      have e1' : keyS c (entsOf s m (D ++ [(pre, f)])) = .inl (i, rowOf s m (D ++ [(pre, f)]) c) := e1
      rw [e1']
      simp only []
      have hb := bump_ok s (o, f) c pre.length m (rowOf s m (D ++ [(pre, f)]) c) (rowOf_car ..) (rowOf_len ..) hk (by rw [hp]; have := hpb c; omega) (by have := htb c; omega) (fun row => (met ++ [c], (seen (D ++ [(pre, f)]), setVal (entsOf s m (D ++ [(pre, f)])) i row))) some
      refine hb.trans ?_
      rw [hseen, if_pos h2]
      congr 3
      unfold entsOf
      rw [e2, hseen, if_pos h2]
      apply List.map_congr_left
      intro x _
      rw [hrow x]
      by_cases ex : x = c
      · subst ex; rw [if_pos rfl, if_pos ⟨rfl, h1⟩]
      · rw [if_neg ex, if_neg (fun hh => ex hh.1)]
    · have e1 : keyS c (entsOf s m (D ++ [(pre, f)])) = .inr () := keyS_none c _ _ h2
      have e0 : rowOf s m (D ++ [(pre, f)]) c = (c, (0, List.replicate m 0)) := rowOf_fresh s m _ c (fun r hr hc => h2 (mem_seen.2 ⟨r, hr, hc⟩))
      rw [e1]
      simp only []
      rw [show noKey c (entsOf s m (D ++ [(pre, f)])) = some () by unfold noKey; rw [e1], show chk (decide (0 ≤ (m : Int) ∧ (m : Int) ≤ m ∧ (m : Int) * 8 ≤ 140737488355328 ∧ (m : Int) ≤ 9223372036854775807)) = some () by rw [decide_eq_true (by omega)]; rfl, bnd', bnd',
        show chk (decide (((seen (D ++ [(pre, f)])).length + [c].length) * 8 ≤ 140737488355328)) = some () by rw [decide_eq_true (by simp only [List.length_singleton]; omega)]; rfl, bnd', Int.toNat_natCast]
      have hb := bump_ok s (o, f) c pre.length m (c, (0, List.replicate m 0)) rfl (by simp) hk ⟨Int.le_refl _, by show (0 : Int) ≤ 1000000; decide⟩ (by rw [← e0]; have := htb c; rw [e0] at this ⊢; omega) (fun row => (met ++ [c], (seen (D ++ [(pre, f)]) ++ [c], setVal (entsOf s m (D ++ [(pre, f)]) ++ [(c, (c, (0, List.replicate m 0)))]) (entsOf s m (D ++ [(pre, f)])).length row))) some
      refine hb.trans ?_
      rw [hseen, if_neg h2, setVal_end]
      congr 3
      unfold entsOf
      rw [hseen, if_neg h2, List.map_append, List.map_cons, List.map_nil]
      congr 1
      · apply List.map_congr_left
        intro x hx
        rw [hrow x, if_neg (fun hh : x = c ∧ c ∉ pre => h2 (by rw [← hh.1]; exact hx))]
      · rw [hrow c, if_pos ⟨rfl, h1⟩, e0]
end Go.Proofs.Ytemdppcnhlnicaa.Ev
