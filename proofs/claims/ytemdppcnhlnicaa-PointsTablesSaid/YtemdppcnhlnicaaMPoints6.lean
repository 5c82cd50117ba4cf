/- Points: the document's table is the program's. -/
import Derived.Test.YtemdppcnhlnicaaMPoints5
set_option linter.unusedVariables false
set_option linter.unusedSimpArgs false
namespace Go.Proofs.Ytemdppcnhlnicaa.Ev
open Go
def insGo {R : Type} (out : List TRow) (a : Int) (x : TRow) (X : List TRow → Option R) : Option R :=
  (cutn (0 : Int) a (out.length : Int)).bind fun (c1 : Nat × Nat) =>
  (chk (decide (((([] : List TRow)).length + ((out.drop c1.1).take c1.2).length) * 40 ≤ 140737488355328))).bind fun _ =>
  (chk (decide (((([] : List TRow) ++ (out.drop c1.1).take c1.2).length + ([x] : List TRow).length) * 40 ≤ 140737488355328))).bind fun _ =>
  (cutn a (out.length : Int) (out.length : Int)).bind fun (c2 : Nat × Nat) =>
  (chk (decide (((([] : List TRow) ++ (out.drop c1.1).take c1.2 ++ [x]).length + ((out.drop c2.1).take c2.2).length) * 40 ≤ 140737488355328))).bind fun _ =>
  X (([] : List TRow) ++ (out.drop c1.1).take c1.2 ++ [x] ++ (out.drop c2.1).take c2.2)
theorem insGo_eq {R : Type} (out : List TRow) (a : Nat) (x : TRow) (X : List TRow → Option R) (ha : a ≤ out.length) (hl : out.length ≤ 10000) : insGo out (a : Int) x X = X (out.take a ++ [x] ++ out.drop a) := by
  unfold insGo
  rw [show cutn 0 (a : Int) (out.length : Int) = some (0, a) by unfold cutn; rw [decide_eq_true (by omega)]; simp, bnd', List.drop_zero, List.nil_append]
  have h1 : (out.take a).length = a := by rw [List.length_take]; omega
  have h2 : (out.drop a).take (out.length - a) = out.drop a := by rw [List.take_of_length_le (by rw [List.length_drop]; omega)]
  rw [show cutn (a : Int) (out.length : Int) (out.length : Int) = some (a, out.length - a) by
    unfold cutn; rw [decide_eq_true (by omega)]; simp only [Int.toNat_natCast, Option.some.injEq, Prod.mk.injEq, true_and]; omega]
  rw [show chk (decide (((([] : List TRow)).length + (out.take a).length) * 40 ≤ 140737488355328)) = some () by rw [decide_eq_true (by simp only [List.length_nil]; omega)]; rfl, bnd',
    show chk (decide (((out.take a).length + ([x] : List TRow).length) * 40 ≤ 140737488355328)) = some () by rw [decide_eq_true (by simp only [List.length_singleton]; omega)]; rfl, bnd', bnd', h2,
    show chk (decide (((out.take a ++ [x]).length + (out.drop a).length) * 40 ≤ 140737488355328)) = some () by rw [decide_eq_true (by simp only [List.length_append, List.length_singleton, List.length_drop]; omega)]; rfl, bnd']
/-- The loops of chicaneref48.Table, whatever their states look like. -/
structure RefM {R : Type} (s : Sca) (l : List Rnd) (A B : Nat → Int → Int → List TRow → Option R) (C : Nat → Int → Int → Int → List TRow → Option R) (D : Nat → Int → Int → Int → Int → Int × Int → List Int → List TRow → Option R) (fin : List TRow → R) : Prop where
  a : ∀ n m i out, A (n + 1) m i out = bif decide (i < (l.length : Int)) then (rdx l i).bind fun r => A n (if (r.1.length : Int) > m then (r.1.length : Int) else m) (IntKind.wrap .i64 (i + 1)) out else B n m 0 out
  b : ∀ n m i out, B (n + 1) m i out = bif decide (i < (l.length : Int)) then C n m i 0 out else some (fin out)
  c : ∀ n m i k out, C (n + 1) m i k out = (rdx l i).bind fun r => bif decide (k < (r.1.length : Int)) then (rdx l i).bind fun r => (rdx r.1 k).bind fun x => (F27_0 (out, x)).bind fun b => bif b then C n m i (IntKind.wrap .i64 (k + 1)) out else (F28_0 (s, (l, (x, m)))).bind fun q => D n m i k (out.length : Int) q.1 q.2 out else B n m (IntKind.wrap .i64 (i + 1)) out
  d : ∀ n m i k a p t out, D (n + 1) m i k a p t out = bif decide (a > 0) then (rdx out (IntKind.wrap .i64 (a - 1))).bind fun y => (F29_0 ((p.1, (p.2, t)), y)).bind fun b => bif b then D n m i k (IntKind.wrap .i64 (a - 1)) p t out else insGo out a (p.1, (p.2, t)) (fun o => C n m i (IntKind.wrap .i64 (k + 1)) o) else insGo out a (p.1, (p.2, t)) (fun o => C n m i (IntKind.wrap .i64 (k + 1)) o)
section
variable {R : Type} {s : Sca} {l : List Rnd} {A B : Nat → Int → Int → List TRow → Option R} {C : Nat → Int → Int → Int → List TRow → Option R} {D : Nat → Int → Int → Int → Int → Int × Int → List Int → List TRow → Option R} {fin : List TRow → R}
theorem ref_a (M : RefM s l A B C D fin) (hl : l.length ≤ 60) (out : List TRow) : ∀ (rest pre : List Rnd) (n m : Nat), l = pre ++ rest → A (n + rest.length + 1) (m : Int) (pre.length : Int) out = B n ((rest.foldl (fun m r => max m r.1.length) m : Nat) : Int) 0 out := by
  intro rest
  induction rest with
  | nil =>
    intro pre n m h
    rw [M.a]
    subst h
    simp only [lt_end, cond_false]; rfl
  | cons r rest ih =>
    intro pre n m h
    have ih' := ih (pre ++ [r]) n (max m r.1.length) (by rw [h]; simp)
    have hl' : pre.length + (rest.length + 1) ≤ 60 := by rw [h] at hl; simpa using hl
    rw [M.a]
    subst h
    simp only [lt_mid, cond_true, rd_mid, bnd', w_mid pre r (by omega), max_if]
    exact ih'
theorem ref_d (M : RefM s l A B C D fin) (m i k : Int) (x : TRow) (out : List TRow) (hs : Srt out) (hlen : ∀ y ∈ out, x.2.2.length = y.2.2.length) (hx : x.2.2.length ≤ 60) (hl : out.length ≤ 10000) : ∀ (a f : Nat), a ≤ out.length → (∀ y ∈ out.drop a, cmpRow x y < 0) → a < f →
    ∃ out' f', D f m i k (a : Int) (x.1, x.2.1) x.2.2 out = C f' m i (IntKind.wrap .i64 (k + 1)) out' ∧ f ≤ f' + a + 1 ∧ Srt out' ∧ out'.Perm (out ++ [x]) := by
  intro a
  induction a with
  | zero =>
    intro f ha hd hf
    obtain ⟨f, rfl⟩ : ∃ g, f = g + 1 := ⟨f - 1, by omega⟩
    refine ⟨out.take 0 ++ [x] ++ out.drop 0, f, ?_, by omega, srt_insert hs hd (by simp), perm_insert out x 0⟩
    rw [M.d, decide_eq_false (by omega), cond_false]
    exact insGo_eq out 0 x _ (by omega) hl
  | succ a ih =>
    intro f ha hd hf
    obtain ⟨f, rfl⟩ : ∃ g, f = g + 1 := ⟨f - 1, by omega⟩
    have hal : a < out.length := by omega
    have e1 : D (f + 1) m i k ((a + 1 : Nat) : Int) (x.1, x.2.1) x.2.2 out = bif decide (cmpRow x out[a] < 0) then D f m i k (a : Int) (x.1, x.2.1) x.2.2 out else C f m i (IntKind.wrap .i64 (k + 1)) (out.take (a + 1) ++ [x] ++ out.drop (a + 1)) := by
      rw [M.d, decide_eq_true (by omega), cond_true, w64 (by omega), show ((a + 1 : Nat) : Int) - 1 = (a : Int) by omega, srd hal, bnd', f29 _ _ (hlen _ (List.getElem_mem hal)) hx, bnd', insGo_eq out (a + 1) _ _ ha hl]
    rw [e1]
    by_cases h : cmpRow x out[a] < 0
    · rw [decide_eq_true h, cond_true]
      obtain ⟨out', f', h1, h2, h3, h4⟩ := ih f (by omega) (by
        intro y hy
        rw [← List.getElem_cons_drop (h := hal)] at hy
        rcases List.mem_cons.1 hy with rfl | hy
        · exact h
        · exact hd y hy) (by omega)
      exact ⟨out', f', h1, by omega, h3, h4⟩
    · rw [decide_eq_false h, cond_false]
      exact ⟨_, f, rfl, by omega, srt_insert hs hd (srt_take hs hal h), perm_insert out x (a + 1)⟩
theorem seen_len' {l : List Rnd} (h : ∀ r ∈ l, r.1.length ≤ 60) : (seen l).length ≤ 60 * l.length := by
  have : ∀ l : List Rnd, (∀ r ∈ l, r.1.length ≤ 60) → (l.flatMap (·.1)).length ≤ 60 * l.length := by
    intro l
    induction l with
    | nil => intro _; simp
    | cons r l ih =>
      intro h
      have h1 := ih (fun r hr => h r (List.mem_cons_of_mem _ hr)); have h2 := h r (List.mem_cons_self ..)
      simp only [List.flatMap_cons, List.length_append, List.length_cons]; omega
  have h1 := this l h; have h2 := length_uniq (l.flatMap (·.1))
  unfold seen; omega
theorem perm_cars {out : List TRow} {cs : List Int} {m : Nat} (h : out.Perm (cs.map (rowOf s m l))) (c : Int) : c ∈ out.map (·.1) ↔ c ∈ cs := by
  have h2 := h.map (fun x : TRow => x.1)
  rw [List.map_map, show ((fun x : TRow => x.1) ∘ rowOf s m l) = id from funext fun c => rowOf_car s m l c, List.map_id] at h2
  exact h2.mem_iff
theorem ref_c (M : RefM s l A B C D fin) (hl : Small l) (i : Nat) (pl : List Rnd) (hpl : pl.length < 30) (hpo : ∀ r ∈ pl, r.1.length ≤ 60) (o : List Int) (fa : Int) (hrd : rdx l (i : Int) = some (o, fa)) (ho : o.length ≤ 60) : ∀ (rest pre : List Int) (out : List TRow) (f : Nat), o = pre ++ rest → Srt out → out.Perm ((seen (pl ++ [(pre, fa)])).map (rowOf s (lng l) l)) → 1802 * rest.length < f →
    ∃ out' f', C f ((lng l : Nat) : Int) (i : Int) (pre.length : Int) out = B f' ((lng l : Nat) : Int) (IntKind.wrap .i64 ((i : Int) + 1)) out' ∧ f ≤ f' + 1802 * rest.length + 1 ∧ Srt out' ∧ out'.Perm ((seen (pl ++ [(o, fa)])).map (rowOf s (lng l) l)) := by
  intro rest
  induction rest with
  | nil =>
    intro pre out f h hs hp hf
    obtain ⟨f, rfl⟩ : ∃ g, f = g + 1 := ⟨f - 1, by omega⟩
    rw [List.append_nil] at h
    subst h
    refine ⟨out, f, ?_, by omega, hs, hp⟩
    rw [M.c, hrd, bnd', decide_eq_false (by simp only []; omega), cond_false]
  | cons c rest ih =>
    intro pre out f h hs hp hf
    obtain ⟨f, rfl⟩ : ∃ g, f = g + 1 := ⟨f - 1, by omega⟩
    have hlen : pre.length + (rest.length + 1) ≤ 60 := by rw [h] at ho; simpa using ho
    have hsl := seen_len' (l := pl ++ [(pre, fa)]) (by
      intro r hr
      rcases List.mem_append.1 hr with hr | hr
      · exact hpo r hr
      · simp only [List.mem_singleton] at hr; subst hr; show pre.length ≤ 60; omega)
    rw [List.length_append, List.length_singleton] at hsl
    have hol : out.length ≤ 1800 := by rw [hp.length_eq, List.length_map]; omega
    have hm : (lng l) ≤ 60 := lng_le l hl.2
    have hsn := seen_snoc pl pre fa c
    rw [List.length_cons] at hf
    have e0 : C (f + 1) ((lng l : Nat) : Int) (i : Int) (pre.length : Int) out = bif decide (c ∈ seen (pl ++ [(pre, fa)])) then C f ((lng l : Nat) : Int) (i : Int) ((pre ++ [c]).length : Int) out else D f ((lng l : Nat) : Int) (i : Int) (pre.length : Int) (out.length : Int) ((rowOf s (lng l) l c).1, (rowOf s (lng l) l c).2.1) (rowOf s (lng l) l c).2.2 out := by
      rw [M.c, hrd, bnd', bnd']
      simp only []
      have hlt : decide ((pre.length : Int) < (o.length : Int)) = true := by rw [h]; exact lt_mid ..
      have hro : rdx o (pre.length : Int) = some c := by rw [h]; exact rd_mid ..
      rw [hlt, cond_true, hro, bnd', f27 _ _ (by omega), bnd', w_mid pre c (by omega), f28 s l c hl (lng l) (fun r hr => lng_ge hr) hm, bnd']
      rw [show decide (c ∈ out.map (·.1)) = decide (c ∈ seen (pl ++ [(pre, fa)])) from decide_eq_decide.2 (perm_cars hp c)]
      rfl
    rw [e0]
    by_cases hc : c ∈ seen (pl ++ [(pre, fa)])
    · rw [decide_eq_true hc, cond_true]
      obtain ⟨out', f', h1, h2, h3, h4⟩ := ih (pre ++ [c]) out f (by rw [h]; simp) hs (by rw [hsn, if_pos hc]; exact hp) (by omega)
      exact ⟨out', f', h1, by rw [List.length_cons]; omega, h3, h4⟩
    · rw [decide_eq_false hc, cond_false]
      obtain ⟨out1, f1, g1, g2, g3, g4⟩ := ref_d M ((lng l : Nat) : Int) (i : Int) (pre.length : Int) (rowOf s (lng l) l c) out hs (by
        intro y hy
        obtain ⟨c', _, rfl⟩ := List.mem_map.1 (hp.mem_iff.1 hy)
        rw [rowOf_len, rowOf_len]) (by rw [rowOf_len]; exact hm) (by omega) out.length f (Nat.le_refl _) (by rw [List.drop_length]; intro y hy; cases hy) (by omega)
      rw [w_mid pre c (by omega)] at g1
      obtain ⟨out', f', h1, h2, h3, h4⟩ := ih (pre ++ [c]) out1 f1 (by rw [h]; simp) g3 (by
        rw [hsn, if_neg hc, List.map_append]
        exact g4.trans (hp.append_right _)) (by omega)
      exact ⟨out', f', g1.trans h1, by rw [List.length_cons]; omega, h3, h4⟩
def costB (l : List Rnd) : Nat := (l.map fun r => 1802 * r.1.length + 2).sum
theorem costB_le {l : List Rnd} (h : ∀ r ∈ l, r.1.length ≤ 60) : costB l ≤ 108122 * l.length := by
  induction l with
  | nil => simp [costB]
  | cons r l ih =>
    have h1 := ih (fun r hr => h r (List.mem_cons_of_mem _ hr)); have h2 := h r (List.mem_cons_self ..)
    unfold costB at h1 ⊢
    simp only [List.map_cons, List.sum_cons, List.length_cons]; omega
theorem ref_b (M : RefM s l A B C D fin) (hl : Small l) (h30 : l.length ≤ 30) : ∀ (rest pre : List Rnd) (out : List TRow) (f : Nat), l = pre ++ rest → Srt out → out.Perm ((seen pre).map (rowOf s (lng l) l)) → costB rest < f →
    B f ((lng l : Nat) : Int) (pre.length : Int) out = some (fin (tab s l)) := by
  intro rest
  induction rest with
  | nil =>
    intro pre out f h hs hp hf
    obtain ⟨f, rfl⟩ : ∃ g, f = g + 1 := ⟨f - 1, by omega⟩
    rw [List.append_nil] at h
    rw [M.b, decide_eq_false (by rw [← h]; omega), cond_false]
    rw [← h] at hp
    congr 2
    exact srt_unique (rows_nodup ..) hp hs
  | cons r rest ih =>
    intro pre out f h hs hp hf
    obtain ⟨f, rfl⟩ : ∃ g, f = g + 1 := ⟨f - 1, by omega⟩
    have hlen : pre.length + (rest.length + 1) ≤ 30 := by rw [h] at h30; simpa using h30
    have hc : costB (r :: rest) = 1802 * r.1.length + 2 + costB rest := by unfold costB; simp only [List.map_cons, List.sum_cons]
    have hrd : rdx l (pre.length : Int) = some (r.1, r.2) := by rw [h]; exact rd_mid ..
    obtain ⟨out', f', h1, h2, h3, h4⟩ := ref_c M hl pre.length pre (by omega) (fun q hq => hl.2 q (by rw [h]; simp [hq])) r.1 r.2 hrd (hl.2 r (by rw [h]; simp)) r.1 [] out f rfl hs (by rw [seen_nil]; exact hp) (by omega)
    rw [w_mid pre r (by omega)] at h1
    have ih' := ih (pre ++ [r]) out' f' (by rw [h]; simp) h3 h4 (by omega)
    have hlt : decide ((pre.length : Int) < (l.length : Int)) = true := by rw [h]; exact lt_mid ..
    rw [M.b, hlt, cond_true]
    exact h1.trans ih'
theorem ref_run (M : RefM s l A B C D fin) (hl : Small l) (h30 : l.length ≤ 30) : A 4000000 0 0 [] = some (fin (tab s l)) := by
  have h1 := costB_le hl.2
  obtain ⟨n, hn⟩ : ∃ n, 4000000 = n + l.length + 1 := ⟨4000000 - l.length - 1, by omega⟩
  have e1 := ref_a M hl.1 [] l [] n 0 rfl
  have e2 := ref_b M hl h30 l [] [] n rfl List.Pairwise.nil (by simp [seen, uniq]) (by omega)
  rw [hn]
  exact e1.trans e2
end
/-! ### The two tellings -/
theorem r15_0 (s : Sca) (l : List Rnd) : RefM s l (fun n m i out => (K15_0 n).1 ((l, (m, i)), (out, s))) (fun n m i out => (K15_0 n).2.1 ((l, (m, i)), (out, s))) (fun n m i k out => (K15_0 n).2.2.1 ((l, (m, (i, k))), (out, s)))
    (fun n m i k a p t out => (K15_0 n).2.2.2 ((l, (m, (i, (k, a)))), (p, (t, (out, s))))) (fun t => t) where
  a n m i out := by show B15_0_4 (K15_0 n) _ = _; rfl
  b n m i out := by show B15_0_8 (K15_0 n) _ = _; rfl
  c n m i k out := by show B15_0_11 (K15_0 n) _ = _; rfl
  d n m i k a p t out := by
    show B15_0_17 (K15_0 n) _ = _
    unfold B15_0_17 insGo
    simp only [idx_rdx]
theorem f15_0 (s : Sca) (l : List Rnd) (h : Small l) (h30 : l.length ≤ 30) : F15_0 (s, l) = some (tab s l) := by
  show E15_0 (K15_0 4000000) (s, l) = _
  exact ref_run (r15_0 s l) h h30
theorem r15_1 (s : Sca) (l : List Rnd) : RefM s l (fun n m i out => (K15_1 n).1 ((m, i), (out, (s, l)))) (fun n m i out => (K15_1 n).2.1 ((m, i), (out, (s, l)))) (fun n m i k out => (K15_1 n).2.2.1 ((m, (i, k)), (out, (s, l))))
    (fun n m i k a p t out => (K15_1 n).2.2.2 ((m, (i, (k, a))), (p, (t, (out, (s, l)))))) (fun t => (t, l)) where
  a n m i out := by
    show B15_1_4 (K15_1 n) _ = _
    unfold B15_1_4
    simp only [idx_rdx]
  b n m i out := by show B15_1_8 (K15_1 n) _ = _; rfl
  c n m i k out := by
    show B15_1_11 (K15_1 n) _ = _
    unfold B15_1_11
    simp only [idx_rdx]
  d n m i k a p t out := by
    show B15_1_17 (K15_1 n) _ = _
    unfold B15_1_17 insGo
    simp only [idx_rdx]
theorem f15_1 (s : Sca) (l : List Rnd) (h : Small l) (h30 : l.length ≤ 30) : F15_1 (s, l) = some (tab s l, l) := by
  show E15_1 (K15_1 4000000) (s, l) = _
  exact ref_run (r15_1 s l) h h30
end Go.Proofs.Ytemdppcnhlnicaa.Ev
