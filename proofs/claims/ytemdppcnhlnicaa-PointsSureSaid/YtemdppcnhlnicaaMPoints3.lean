/- Points: the program's table, in each of its three tellings. -/
import Derived.Test.YtemdppcnhlnicaaMPoints2
set_option linter.unusedVariables false
set_option linter.unusedSimpArgs false
namespace Go.Proofs.Ytemdppcnhlnicaa.Ev
open Go
/-- The loops of points.Table, whatever their states look like. -/
structure TabM {R : Type} (s : Sca) (l : List Rnd) (m : Int) (right : Bool) (A : Nat → Int → List Int → Ents → Option R) (B : Nat → Int → Rnd → Int → List Int → List Int → Ents → Option R) (C : Nat → Int → List Int → List TRow → Ents → Option R) (fin : List TRow → R) : Prop where
  a : ∀ n i cars ents, A (n + 1) i cars ents = bif decide (i < (l.length : Int)) then (rdx l i).bind fun r => B n i r 0 [] cars ents else C n 0 cars [] ents
  b : ∀ n i r k met cars ents, B (n + 1) i r k met cars ents = bif decide (k < (r.1.length : Int)) then (rdx r.1 k).bind fun c => (tstep m right s r c k met cars ents).bind fun t => B n i r (IntKind.wrap .i64 (k + 1)) t.1 t.2.1 t.2.2 else A n (IntKind.wrap .i64 (i + 1)) cars ents
  c : ∀ n j cars out ents, C (n + 1) j cars out ents = bif decide (j < (cars.length : Int)) then (rdx cars j).bind fun x => (keyO x ents).bind fun q => (chk (decide ((out.length + [q.2].length) * 40 ≤ 140737488355328))).bind fun _ => C n (IntKind.wrap .i64 (j + 1)) cars (out ++ [q.2]) ents else (sortRows out).bind fun t => some (fin t)
section
variable {R : Type} {s : Sca} {l : List Rnd} {m : Nat} {A : Nat → Int → List Int → Ents → Option R} {B : Nat → Int → Rnd → Int → List Int → List Int → Ents → Option R} {C : Nat → Int → List Int → List TRow → Ents → Option R} {fin : List TRow → R}
theorem small_mid {D : List Rnd} {pre : List Int} {f : Int} (hD : D.length < 60) (hDo : ∀ r ∈ D, r.1.length ≤ 60) (hp : pre.length ≤ 60) : Small (D ++ [(pre, f)]) := by
  refine ⟨by simp; omega, fun r hr => ?_⟩
  rcases List.mem_append.1 hr with h | h
  · exact hDo r h
  · simp only [List.mem_singleton] at h; subst h; exact hp
theorem tab_inner (M : TabM s l (m : Int) (good s) A B C fin) (hm : m ≤ 60) (D : List Rnd) (hD : D.length < 60) (hDo : ∀ r ∈ D, r.1.length ≤ 60) (o : List Int) (f : Int) (ho : o.length ≤ m) (i : Int) : ∀ (rest pre met : List Int) (n : Nat), o = pre ++ rest → (∀ x, x ∈ met ↔ x ∈ pre) →
    B (n + rest.length + 1) i (o, f) (pre.length : Int) met (seen (D ++ [(pre, f)])) (entsOf s m (D ++ [(pre, f)])) = A n (IntKind.wrap .i64 (i + 1)) (seen (D ++ [(o, f)])) (entsOf s m (D ++ [(o, f)])) := by
  intro rest
  induction rest with
  | nil =>
    intro pre met n h hmet
    subst h
    rw [M.b]
    simp only [lt_end, cond_false, List.append_nil]
    rw [show decide ((pre.length : Int) < (pre.length : Int)) = false from decide_eq_false (by omega), cond_false]; rfl
  | cons c rest ih =>
    intro pre met n h hmet
    have hl : pre.length + (rest.length + 1) ≤ m := by rw [h] at ho; simpa using ho
    obtain ⟨met', h1, h2⟩ := tstep_ok s D pre o f c m met hmet (by omega) hm (by omega) (by have := seen_len (small_mid (f := f) hD hDo (show pre.length ≤ 60 by omega)); omega)
    have ih' := ih (pre ++ [c]) met' n (by rw [h]; simp) h2
    rw [M.b]
    subst h
    simp only [lt_mid, cond_true, rd_mid, bnd', w_mid pre c (by omega)]
    rw [h1, bnd']
    exact ih'
def cost (l : List Rnd) : Nat := (l.map fun r => r.1.length + 2).sum
theorem cost_le {l : List Rnd} (h : Small l) : cost l ≤ 3720 := by
  have : ∀ l : List Rnd, (∀ r ∈ l, r.1.length ≤ 60) → cost l ≤ 62 * l.length := by
    intro l
    induction l with
    | nil => intro _; simp [cost]
    | cons r l ih =>
      intro h
      have h1 := ih (fun r hr => h r (List.mem_cons_of_mem _ hr)); have h2 := h r (List.mem_cons_self ..)
      unfold cost at h1 ⊢
      simp only [List.map_cons, List.sum_cons, List.length_cons]; omega
  have h1 := this l h.2; have h3 := h.1
  omega
theorem tab_outer (M : TabM s l (m : Int) (good s) A B C fin) (hm : m ≤ 60) (hl : Small l) (hlm : ∀ r ∈ l, r.1.length ≤ m) : ∀ (rest pre : List Rnd) (n : Nat), l = pre ++ rest →
    A (n + cost rest + 1) (pre.length : Int) (seen pre) (entsOf s m pre) = C n 0 (seen l) [] (entsOf s m l) := by
  intro rest
  induction rest with
  | nil =>
    intro pre n h
    rw [M.a]
    subst h
    simp only [lt_end, cond_false, List.append_nil]
    rw [show decide ((pre.length : Int) < (pre.length : Int)) = false from decide_eq_false (by omega), cond_false]; rfl
  | cons r rest ih =>
    intro pre n h
    have ih' := ih (pre ++ [r]) n (by rw [h]; simp)
    have hlen : pre.length + (rest.length + 1) ≤ 60 := by have := hl.1; rw [h] at this; simpa using this
    have hr : r.1.length ≤ m := hlm r (by rw [h]; simp)
    have hin := tab_inner M hm pre (by omega) (fun q hq => hl.2 q (by rw [h]; simp [hq])) r.1 r.2 hr (pre.length : Int) r.1 [] [] (n + cost rest + 1) rfl (fun x => Iff.rfl)
    rw [seen_nil, show entsOf s m (pre ++ [([], r.2)]) = entsOf s m pre by unfold entsOf; rw [seen_nil]; simp only [rowOf_nil]] at hin
    have hc : n + cost (r :: rest) + 1 = (n + cost rest + 1 + r.1.length + 1) + 1 := by unfold cost; simp only [List.map_cons, List.sum_cons]; omega
    rw [hc, M.a]
    subst h
    simp only [lt_mid, cond_true, rd_mid, bnd']
    refine hin.trans ?_
    rw [w_mid pre r (by omega)]
    exact ih'
theorem tab_final (M : TabM s l (m : Int) (good s) A B C fin) (hs : (seen l).length ≤ 10000) : ∀ (rest pre : List Int) (n : Nat), seen l = pre ++ rest →
    C (n + rest.length + 1) (pre.length : Int) (seen l) (pre.map (rowOf s m l)) (entsOf s m l) = (sortRows ((seen l).map (rowOf s m l))).bind fun t => some (fin t) := by
  intro rest
  induction rest with
  | nil =>
    intro pre n h
    rw [M.c, h]
    simp only [lt_end, cond_false, List.append_nil]
    rw [show decide ((pre.length : Int) < (pre.length : Int)) = false from decide_eq_false (by omega), cond_false]
  | cons c rest ih =>
    intro pre n h
    have ih' := ih (pre ++ [c]) n (by rw [h]; simp)
    have hlen : pre.length + (rest.length + 1) ≤ 10000 := by rw [h] at hs; simpa using hs
    obtain ⟨j, e1, _⟩ := keyS_some c (rowOf s m l) (seen l) (by rw [h]; simp) (nodup_uniq _)
    have e2 : keyO c (entsOf s m l) = some (j, rowOf s m l c) := by
      unfold keyO
      have e1' : keyS c (entsOf s m l) = .inl (j, rowOf s m l c) := e1
      rw [e1']
    rw [M.c]
    have hlt : decide ((pre.length : Int) < ((seen l).length : Int)) = true := by rw [h]; exact lt_mid ..
    have hrd : rdx (seen l) (pre.length : Int) = some c := by rw [h]; exact rd_mid ..
    rw [hlt, cond_true, hrd, bnd', e2, bnd', show chk (decide (((pre.map (rowOf s m l)).length + [(j, rowOf s m l c).2].length) * 40 ≤ 140737488355328)) = some () by rw [decide_eq_true (by simp only [List.length_map, List.length_singleton]; omega)]; rfl, bnd', w_mid pre c (by omega)]
    rw [List.map_append] at ih'
    exact ih'
/-- The table. -/
def tab (s : Sca) (l : List Rnd) : List TRow := ((seen l).map (rowOf s (lng l) l)).mergeSort rowLe
theorem rows_nodup (s : Sca) (m : Nat) (l : List Rnd) : (((seen l).map (rowOf s m l)).map (·.1)).Nodup := by
  rw [List.map_map, show ((fun x : TRow => x.1) ∘ rowOf s m l) = id from funext fun c => rowOf_car s m l c, List.map_id]
  exact nodup_uniq _
theorem sortRows_rows (s : Sca) (l : List Rnd) (h : Small l) : sortRows ((seen l).map (rowOf s (lng l) l)) = some (tab s l) := by
  unfold sortRows
  rw [if_pos]
  · rfl
  · refine ⟨by rw [List.length_map]; have := seen_len h; omega, rows_nodup .., fun x hx => ?_⟩
    obtain ⟨c, _, rfl⟩ := List.mem_map.1 hx
    rw [rowOf_len]; have := lng_le l h.2; omega
theorem tab_run (M : TabM s l ((lng l : Nat) : Int) (good s) A B C fin) (h : Small l) : A 20000 0 [] [] = some (fin (tab s l)) := by
  have h1 := cost_le h; have h2 := seen_len h
  obtain ⟨n, hn⟩ : ∃ n, 20000 = (n + (seen l).length + 1) + cost l + 1 := ⟨20000 - (seen l).length - cost l - 2, by omega⟩
  have e1 := tab_outer M (lng_le l h.2) h (fun r hr => lng_ge hr) l [] (n + (seen l).length + 1) rfl
  have e2 := tab_final M (by omega) (seen l) [] n rfl
  rw [sortRows_rows s l h, bnd'] at e2
  rw [hn]
  exact e1.trans e2
end
/-! ### The three tellings -/
theorem cond_bind {α β : Type} (b : Bool) (x y : Option α) (f : α → Option β) : (bif b then x else y).bind f = bif b then x.bind f else y.bind f := by cases b <;> rfl
def tgo {R : Type} (m : Int) (right : Bool) (s : Sca) (r : Rnd) (c k : Int) (met cars : List Int) (ents : Ents) (X : List Int → List Int → Ents → Option R) : Option R :=
  bif hasI c met then X met cars ents
  else match keyS c ents with
    | .inl q => (idx k q.2.2.2.length).bind fun i => (q.2.2.2[i]?).bind fun x => (idx k q.2.2.2.length).bind fun j => (q.2.2.2[j]?).bind fun _ =>
      bif right then (F22_0 (s, (r, (c, k)))).bind fun p => X (addI c met) cars (setVal ents q.1 (q.2.1, (IntKind.wrap .i64 (q.2.2.1 + p), q.2.2.2.set j (IntKind.wrap .i64 (x + 1)))))
      else X (addI c met) cars (setVal ents q.1 (q.2.1, (q.2.2.1, q.2.2.2.set j (IntKind.wrap .i64 (x + 1)))))
    | .inr _ => (chk (decide (0 ≤ m ∧ m ≤ m ∧ m * 8 ≤ 140737488355328 ∧ m ≤ 9223372036854775807))).bind fun _ => (noKey c ents).bind fun _ => (chk (decide ((cars.length + [c].length) * 8 ≤ 140737488355328))).bind fun _ =>
      (idx k (List.replicate m.toNat (0 : Int)).length).bind fun i => ((List.replicate m.toNat (0 : Int))[i]?).bind fun x => (idx k (List.replicate m.toNat (0 : Int)).length).bind fun j => ((List.replicate m.toNat (0 : Int))[j]?).bind fun _ =>
      bif right then (F22_0 (s, (r, (c, k)))).bind fun p => X (addI c met) (cars ++ [c]) (setVal (ents ++ [(c, (c, (0, List.replicate m.toNat (0 : Int))))]) ents.length (c, (IntKind.wrap .i64 (0 + p), (List.replicate m.toNat (0 : Int)).set j (IntKind.wrap .i64 (x + 1)))))
      else X (addI c met) (cars ++ [c]) (setVal (ents ++ [(c, (c, (0, List.replicate m.toNat (0 : Int))))]) ents.length (c, (0, (List.replicate m.toNat (0 : Int)).set j (IntKind.wrap .i64 (x + 1)))))
theorem tgo_eq {R : Type} (m : Int) (right : Bool) (s : Sca) (r : Rnd) (c k : Int) (met cars : List Int) (ents : Ents) (X : List Int → List Int → Ents → Option R) :
    tgo m right s r c k met cars ents X = (tstep m right s r c k met cars ents).bind fun t => X t.1 t.2.1 t.2.2 := by
  unfold tstep tgo
  cases hasI c met with
  | true => rfl
  | false =>
    simp only [cond_false]
    cases keyS c ents with
    | inl q => simp only [Option.bind_assoc, cond_bind, bnd']
    | inr q => simp only [Option.bind_assoc, cond_bind, bnd']
theorem m14_0 (s : Sca) (l : List Rnd) (m : Int) (right : Bool) : TabM s l m right (fun n i cars ents => (K14_0 n).1 ((m, (right, (l, ((l.length : Int), i)))), (cars, (ents, s)))) (fun n i r k met cars ents => (K14_0 n).2.1 ((m, (right, (l, ((l.length : Int), (i, (r.1, ((r.1.length : Int), k))))))), (met, (r, (cars, (ents, s))))))
    (fun n j cars out ents => (K14_0 n).2.2 ((ents, ((cars.length : Int), j)), (cars, out))) (fun t => t) where
  a n i cars ents := by show B14_0_5 (K14_0 n) _ = _; rfl
  b n i r k met cars ents := by
    refine (show B14_0_9 (K14_0 n) _ = bif _ then (rdx r.1 k).bind fun c => tgo m right s r c k met cars ents (fun met cars ents => (K14_0 n).2.1 ((m, (right, (l, ((l.length : Int), (i, (r.1, ((r.1.length : Int), (IntKind.wrap .i64 (k + 1))))))))), (met, (r, (cars, (ents, s)))))) else _ from rfl).trans ?_
    simp only [tgo_eq]
  c n j cars out ents := by
    show B14_0_25 (K14_0 n) _ = _
    unfold B14_0_25 F25_0
    simp only [idx_rdx]
theorem f14_0 (s : Sca) (l : List Rnd) (h : Small l) : F14_0 (s, l) = some (tab s l) := by
  show E14_0 (K14_0 20000) (s, l) = _
  unfold E14_0
  simp only [f24 l h.1, bnd', f9, err_good]
  exact tab_run (m14_0 s l _ _) h
theorem m14_1 (s : Sca) (l : List Rnd) (m : Int) (right : Bool) : TabM s l m right (fun n i cars ents => (K14_1 n).1 ((m, (right, ((l.length : Int), i))), (cars, (ents, (s.2, (s.1, l)))))) (fun n i r k met cars ents => (K14_1 n).2.1 ((m, (right, ((l.length : Int), (i, (r.1, ((r.1.length : Int), k)))))), (met, (r, (cars, (ents, (s.2, (s.1, l))))))))
    (fun n j cars out ents => (K14_1 n).2.2 ((ents, ((cars.length : Int), j)), (cars, (out, (s.1, l))))) (fun t => (t, (s.1, l))) where
  a n i cars ents := by
    show B14_1_5 (K14_1 n) _ = _
    unfold B14_1_5
    simp only [idx_rdx]
  b n i r k met cars ents := by
    refine (show B14_1_9 (K14_1 n) _ = bif _ then (rdx r.1 k).bind fun c => tgo m right s r c k met cars ents (fun met cars ents => (K14_1 n).2.1 ((m, (right, ((l.length : Int), (i, (r.1, ((r.1.length : Int), (IntKind.wrap .i64 (k + 1)))))))), (met, (r, (cars, (ents, (s.2, (s.1, l)))))))) else _ from rfl).trans ?_
    simp only [tgo_eq]
  c n j cars out ents := by
    show B14_1_25 (K14_1 n) _ = _
    unfold B14_1_25 F25_0
    simp only [idx_rdx]
theorem f14_1 (s : Sca) (l : List Rnd) (h : Small l) : F14_1 (s.2, (l, s.1)) = some (tab s l, (s.1, l)) := by
  show E14_1 (K14_1 20000) (s.2, (l, s.1)) = _
  unfold E14_1
  simp only [f24 l h.1, bnd', f9, err_good]
  exact tab_run (m14_1 s l _ _) h
theorem m14_2 (s : Sca) (l : List Rnd) (m : Int) (right : Bool) : TabM s l m right (fun n i cars ents => (K14_2 n).1 ((m, (right, ((l.length : Int), i))), (cars, (ents, (s, l))))) (fun n i r k met cars ents => (K14_2 n).2.1 ((m, (right, ((l.length : Int), (i, (r.1, ((r.1.length : Int), k)))))), (met, (r, (cars, (ents, (s, l)))))))
    (fun n j cars out ents => (K14_2 n).2.2 ((ents, ((cars.length : Int), j)), (cars, (out, l)))) (fun t => (t, l)) where
  a n i cars ents := by
    show B14_2_5 (K14_2 n) _ = _
    unfold B14_2_5
    simp only [idx_rdx]
  b n i r k met cars ents := by
    refine (show B14_2_9 (K14_2 n) _ = bif _ then (rdx r.1 k).bind fun c => tgo m right s r c k met cars ents (fun met cars ents => (K14_2 n).2.1 ((m, (right, ((l.length : Int), (i, (r.1, ((r.1.length : Int), (IntKind.wrap .i64 (k + 1)))))))), (met, (r, (cars, (ents, (s, l))))))) else _ from rfl).trans ?_
    simp only [tgo_eq]
  c n j cars out ents := by
    show B14_2_25 (K14_2 n) _ = _
    unfold B14_2_25 F25_0
    simp only [idx_rdx]
theorem f14_2 (s : Sca) (l : List Rnd) (h : Small l) : F14_2 (s, l) = some (tab s l, l) := by
  show E14_2 (K14_2 20000) (s, l) = _
  unfold E14_2
  simp only [f24 l h.1, bnd', f9, err_good]
  exact tab_run (m14_2 s l _ _) h
end Go.Proofs.Ytemdppcnhlnicaa.Ev
