/- Rows: made, grown; the builtins; every operation but a call. -/
import Derived.Test.YtemdppcnhlnicaaEvH
import Derived.Maps.AppendAt
import Derived.Laws.OwnMore
import Derived.Laws.MakeOwn
set_option linter.unusedVariables false
set_option linter.unusedSimpArgs false
namespace Go.Proofs.Ytemdppcnhlnicaa.Ev
open Go Go.RowKit
variable {G : Nat → Type}
section
variable {P : Program} {E : Env G} {C : Oracle G} {fc : FC} {bl : Nat → Nat} {sv : Nat → Value} {st : St G} {a : Act} {w : World}

theorem bytesOf?_inv {el bytes : Nat} (h : bytesOf? P el = some bytes) : ∃ i z, P.info? el = some i ∧ i.zero = some z ∧ z.cells.size = i.size ∧ 0 < i.size ∧ i.bytes = bytes ∧ 0 < bytes := by
  unfold bytesOf? at h
  split at h
  · rename_i i hi
    split at h
    · rename_i z n hz hn
      split at h
      · rename_i hb hb2
        have h1 := Option.some.inj h
        exact ⟨i, z, hi, hz, by rw [hn]; exact Nat.eq_of_beq_eq_true hb, by omega, h1, by rw [← h1]; exact Nat.le_of_ble_eq_true hb2⟩
      · cases h
    · cases h
  · cases h

theorem grownBy_refl (w : World) (row : Option Nat) : w.grownBy w row := ⟨rfl, rfl, rfl, Nat.le_refl _, fun _ _ _ => rfl⟩
theorem grownBy_alloc' (w : World) (o : Obj) : w.grownBy (w.alloc o) none := ⟨rfl, rfl, rfl, by simp, fun k hk _ => Below.heap_alloc w o k hk⟩

/-- A new row with these cells. -/
theorem out_newrow (hE : EnvOk P E) (m : MRel P E fc bl sv st w) {base el n sz : Nat} (hf : st.blk base = none) {xs : List (G el)} {vs : List Value} (hsz : sizeOf? P el = some sz) (hn : n = xs.length) (hm : n ≤ maxLen)
    (hr : Reps (st.cx P E fc bl sv w) (xs.flatMap (E.enc el)) vs) :
    Out P E fc bl sv st w ⟨.osl base, [(base, .row el xs)]⟩ (.slice (some ⟨w.heap.size, 0, none⟩) n n) (w.alloc (.cells vs.toArray el)) := by
  subst hn
  have hl : ∀ x ∈ xs, (E.enc el x).length = sz := fun x _ => hE.len el x sz hsz
  have hvl : vs.length = xs.length * sz := by rw [hr.1]; exact flat_len _ _ _ hl
  refine out_row m hf [] (by simp) hsz ?_ (grownBy_alloc' w _) (by simp) ?_ hr hl (Nat.le_refl _)
  · refine ⟨hvl, .inr ⟨w.heap.size, xs.length, vs.toArray, rfl, Nat.zero_le _, heap_alloc_new w _, Nat.le_refl _, hm, by simpa using hvl, ?_⟩⟩
    rw [← hvl]; simp
  · intro g hg
    simp only [Value.ownBlock, Option.some.injEq] at hg
    exact .inr (Nat.le_of_eq hg)

theorem Rep.less {c c' : Cx G} (hE : EnvOk c.P c.E) (hP : c'.P = c.P) (hEE : c'.E = c.E) (hw : c'.w = c.w) (how : ∀ g, c'.ow g → c.ow g) {a : AV G} {v : Value} (h : Rep c a v) : ∀ d, a.shut d = true → Rep c' a v := by
  obtain ⟨P, E, w, bl, sv, lv, ow⟩ := c
  obtain ⟨P', E', w', bl', sv', lv', ow'⟩ := c'
  dsimp only at *
  subst hP
  subst hEE
  subst hw
  have all_get : ∀ {d : Nat} {cs : List (AV G)}, cs.all (AV.shut d) = true → ∀ j (h : j < cs.length), cs[j].shut d = true := fun h j hj => List.all_eq_true.1 h _ (List.getElem_mem hj)
  induction h with
  | any v => intro d hd; exact .any v
  | int k n => intro d hd; exact .int k n
  | bool b => intro d hd; exact .bool b
  | str s => intro d hd; exact .str s
  | flt n h => intro d hd; exact .flt n h
  | cpx m n h h' => intro d hd; exact .cpx m n h h'
  | nilptr => intro d hd; exact .nilptr
  | nilsl => intro d hd; exact .nilsl
  | nilfn => intro d hd; exact .nilfn
  | ptr id off h => intro d hd; cases d <;> simp [AV.shut] at hd
  | rop b off cs vs hb ho hc hr ih =>
    intro d hd
    cases d with
    | zero => simp [AV.shut] at hd
    | succ d => exact .rop b off cs vs hb (fun h => ho (how b h)) hc fun j hj => ih j hj d (all_get hd j hj)
  | osl id A n cap h hv => intro d hd; cases d <;> simp [AV.shut] at hd
  | optr id i sz off g n cap h hv => intro d hd; cases d <;> simp [AV.shut] at hd
  | aptr id off len i h h2 => intro d hd; cases d <;> simp [AV.shut] at hd
  | yld id h => intro d hd; cases d <;> simp [AV.shut] at hd
  | oarr id i sz off len j g n cap h hj hv => intro d hd; cases d <;> simp [AV.shut] at hd
  | sub0 id sz lo A cap h => intro d hd; cases d <;> simp [AV.shut] at hd
  | sub id sz lo n g N cap cap' h hv hn hc => intro d hd; cases d <;> simp [AV.shut] at hd
  | asl id off n cap h hc => intro d hd; cases d <;> simp [AV.shut] at hd
  | ros0 e A cap h => intro d hd; exact .ros0 e A cap h
  | rosn0 e a cap => intro d hd; exact .rosn0 e a cap
  | rosn e xs A cap h ih => intro d hd; exact .rosn e xs A cap (ih 1 rfl)
  | ros e xs b off cap sz vs hsz hb ho hc hl hr hcap ih =>
    intro d hd
    exact .ros e xs b off cap sz vs hsz hb (fun h => ho (how b h)) hc hl (fun i hi j hj => ih i hi j hj 4 (all_get (hE.shut e xs[i]) j hj)) hcap
  | mapv id h => intro d hd; cases d <;> simp [AV.shut] at hd
  | romap e xs b clock es hb ho hm hz hk vs hv hr ih => intro d hd; exact .romap e xs b clock es hb (fun h => ho (how b h)) hm hz hk vs hv fun j hj => ih j hj 5 (hE.shut e xs[j].2)
  | agg cs vs hl hr ih =>
    intro d hd
    cases d with
    | zero => simp [AV.shut] at hd
    | succ d => exact .agg cs vs hl fun j hj => ih j hj d (all_get hd j hj)
  | tup cs vs hl hr ih =>
    intro d hd
    cases d with
    | zero => simp [AV.shut] at hd
    | succ d => exact .tup cs vs hl fun j hj => ih j hj d (all_get hd j hj)
  | fnv f cs ds us vs hl hr hl' hr' ih ih' =>
    intro d hd
    cases d with
    | zero => simp [AV.shut] at hd
    | succ d =>
      simp only [AV.shut, Bool.and_eq_true] at hd
      exact .fnv f cs ds us vs hl (fun j hj => ih j hj d (all_get hd.1 j hj)) hl' fun j hj => ih' j hj d (all_get hd.2 j hj)

/-- A row that is lent. -/
theorem lend_ok {c c' : Cx G} (hE : EnvOk c.P c.E) (hP : c'.P = c.P) (hEE : c'.E = c.E) (hw : c'.w = c.w) (how : ∀ g, c'.ow g → c.ow g) {id e : Nat} {xs : List (G e)} (hb : BlkOk c id (.row e xs))
    (hno : ∀ g, (c.sv id).ownBlock = some g → ¬ c'.ow g) : Rep c' (.ros e xs) (c.sv id) := by
  obtain ⟨sz, vs, hsz, ⟨hl, hown⟩, hreps, hlen⟩ := hb
  rcases hown with ⟨h1, h2⟩ | ⟨g, cap, cur, h1, hg, hh, r1, r2, r3, r4⟩
  · rw [h1, List.eq_nil_of_length_eq_zero h2]
    exact .ros0 e none 0 (fun _ => rfl)
  · rw [h1]
    have hfl := flat_len (c.E.enc e) sz xs hlen
    have hat : ∀ i, i < xs.length → ∀ j, j < sz → i * sz + j < xs.length * sz := by
      intro i hi j hj
      have : (i + 1) * sz ≤ xs.length * sz := Nat.mul_le_mul_right sz hi
      rw [Nat.succ_mul] at this; omega
    refine .ros e xs g 0 cap sz (fun i j => vs.getD (i * sz + j) undef) (hP ▸ hsz) (hw ▸ (Array.getElem?_eq_some_iff.1 hh).1) (hno g (by rw [h1]; rfl)) ?_ ?_ ?_ r1
    · intro i hi j hj
      rw [hw, cell_of_row c.w g _ _ e _ hh, ← r4]
      have := hat i hi j hj
      have hlt : i * sz + j < cur.size := by
        have : xs.length * sz ≤ cap * sz := Nat.mul_le_mul_right sz r1
        omega
      simp [List.getD, List.getElem?_take, this, hlt]
    · intro i hi; rw [hEE]; exact hlen _ (List.getElem_mem hi)
    · intro i hi j hj
      have hj' : j < (c.E.enc e xs[i]).length := by rw [← hEE]; exact hj
      have hj2 : j < sz := by rw [← hlen _ (List.getElem_mem hi)]; exact hj'
      have hx : (xs.flatMap (c.E.enc e))[i * sz + j]? = some (c.E.enc e xs[i])[j] := by
        have := flat_at (c.E.enc e) sz xs hlen i xs[i] (List.getElem?_eq_getElem hi)
        rw [← List.getElem?_eq_getElem hj', ← this, List.getElem?_take, if_pos hj2, List.getElem?_drop]
      obtain ⟨hlt, hx2⟩ := List.getElem?_eq_some_iff.1 hx
      have := hreps.2 _ hlt
      rw [hx2] at this
      have h3 := this.less hE hP hEE hw how 4 (List.all_eq_true.1 (hE.shut e xs[i]) _ (List.getElem_mem hj'))
      have e3 : (c'.E.enc e xs[i])[j] = (c.E.enc e xs[i])[j] := by congr 1; rw [hEE]
      rw [e3]
      exact h3

theorem normR_ok {c : Cx G} : ∀ (ps : List (Option Nat)) (cs : List (AV G)) (vs : List Value), Reps c cs vs → Reps c (normR ps cs) vs := by
  intro ps
  induction ps with
  | nil => intro cs vs h; exact h
  | cons p ps ih =>
    intro cs vs h
    cases cs with
    | nil => cases p <;> exact h
    | cons a r =>
      obtain ⟨v, vs', rfl, h1, h2⟩ := h.cons_inv
      have h3 := ih r vs' h2
      cases p with
      | none => exact Reps.cons h1 h3
      | some e =>
        cases a with
        | nilsl => obtain rfl := h1.nilsl_inv; exact Reps.cons (.ros0 e none 0 fun _ => rfl) h3
        | _ => exact Reps.cons h1 h3
/-- Rows that are let go. -/
theorem kill_ok (m : MRel P E fc bl sv st w) (D : List Nat) (hD : ∀ d ∈ D, (st.blk d).isSome = true) :
    MRel P E fc bl sv (st.upd (D.map fun d => (d, (Blk.dead : Blk G)))) w ∧ Keeps (st.cx P E fc bl sv w) ((st.upd (D.map fun d => (d, (Blk.dead : Blk G)))).cx P E fc bl sv w) ∧
      (∀ i, (st.upd (D.map fun d => (d, (Blk.dead : Blk G)))).blk i = if i ∈ D then some .dead else st.blk i) := by
  have hb : ∀ i, (st.upd (D.map fun d => (d, (Blk.dead : Blk G)))).blk i = if i ∈ D then some .dead else st.blk i := by
    intro i
    rw [St.upd_blk]
    have : ∀ l : List Nat, lk (l.map fun d => (d, (Blk.dead : Blk G))) i = if i ∈ l then some .dead else none := by
      intro l
      induction l with
      | nil => simp [lk]
      | cons d l ih =>
        simp only [List.map_cons, lk_cons, ih, List.mem_cons]
        by_cases h : d = i
        · subst h; simp
        · have : ¬ i = d := fun e => h e.symm
          simp [h, this]
    rw [this]
    by_cases h : i ∈ D <;> simp [h]
  have hno : ∀ i g, i ∈ D → ¬ owns (st.upd (D.map fun d => (d, (Blk.dead : Blk G)))) bl sv i g := by
    intro i g hi ho
    unfold owns at ho
    rw [hb, if_pos hi] at ho
    exact ho
  have := m.change (U := fun i => i ∈ D) (bl' := bl) (sv' := sv) (st' := st.upd (D.map fun d => (d, (Blk.dead : Blk G)))) (w' := w) rfl rfl rfl (Nat.le_refl _) (fun _ _ _ => rfl)
    (fun i hi => by rw [hb, if_neg hi])
    (fun i hi => ⟨by rw [hb]; split <;> simp_all, rfl, rfl⟩)
    (fun i g hi ho => absurd ho (hno i g hi))
    (fun i i' g hi _ ho _ => absurd ho (hno i g hi))
    (fun _ i b hi hbk => by rw [hb, if_pos hi] at hbk; obtain rfl := Option.some.inj hbk; trivial)
  exact ⟨this.1, this.2, hb⟩
theorem frz_ok (hE : EnvOk P E) (m : MRel P E fc bl sv st w) {α : Type} : ∀ (cs : List (AV G)) (k : List (AV G) → List Nat → Q G α) (r : α) (l : List Nat) (vs : List Value), (frzQ cs k).trace st.blk = some (r, l) → Reps (st.cx P E fc bl sv w) cs vs →
    ∃ cs' ds l', (k cs' ds).trace st.blk = some (r, l') ∧ (∀ d ∈ ds, (st.blk d).isSome = true) ∧ ∀ D : List Nat, (∀ d ∈ ds, d ∈ D) → (∀ d ∈ D, (st.blk d).isSome = true) → Reps ((st.upd (D.map fun d => (d, (Blk.dead : Blk G)))).cx P E fc bl sv w) cs' vs := by
  intro cs
  induction cs with
  | nil =>
    intro k r l vs hq hr
    obtain rfl := hr.nil_inv
    exact ⟨[], [], l, hq, by simp, fun _ _ _ => Reps.nil _⟩
  | cons a cs ih =>
    intro k r l vs hq hr
    obtain ⟨v, vs', rfl, h1, h2⟩ := hr.cons_inv
    simp only [frzQ] at hq
    split at hq
    · rename_i id
      have hq1 := ask_inv hq
      clear hq
      obtain ⟨l1, hq, -⟩ := hq1
      split at hq
      · rename_i e xs hid
        obtain ⟨cs', ds, l', hk, hds, hrr⟩ := ih _ r l1 vs' hq h2
        refine ⟨_, _, l', hk, ?_, fun D hD hD2 => ?_⟩
        · intro d hd
          rcases List.mem_cons.1 hd with rfl | hd
          · rw [hid]; rfl
          · exact hds d hd
        · have h3 := hrr D (fun d hd => hD d (by simp [hd])) hD2
          obtain ⟨m', kp, hb⟩ := kill_ok m D hD2
          refine Reps.cons ?_ h3
          have how : ∀ g, ((st.upd (D.map fun d => (d, (Blk.dead : Blk G)))).cx P E fc bl sv w).ow g → (st.cx P E fc bl sv w).ow g := by
            rintro g (⟨i, hi⟩ | hn)
            · refine .inl ⟨i, ?_⟩
              unfold owns at hi ⊢
              rw [hb] at hi
              by_cases hiD : i ∈ D
              · rw [if_pos hiD] at hi; exact hi.elim
              · rw [if_neg hiD] at hi; exact hi
            · exact .inr hn
          have hln := lend_ok (c := st.cx P E fc bl sv w) (c' := (st.upd (D.map fun d => (d, (Blk.dead : Blk G)))).cx P E fc bl sv w) hE rfl rfl rfl how (m.blks id _ hid) (by
            intro g hg
            have hown : owns st bl sv id g := by unfold owns; rw [hid]; exact hg
            rintro (⟨i, hi⟩ | hn)
            · have hi' : owns st bl sv i g := by
                unfold owns at hi ⊢
                rw [hb] at hi
                by_cases hiD : i ∈ D
                · rw [if_pos hiD] at hi; exact hi.elim
                · rw [if_neg hiD] at hi; exact hi
              have hii := m.disj i id g hi' hown
              subst hii
              have : i ∈ D := hD i (by simp)
              unfold owns at hi
              rw [hb, if_pos this] at hi
              exact hi
            · have hc := fc.calm g hn
              rcases m.own id g hown with h | h
              · exact hc.2 h
              · omega)
          cases h1 with
          | osl _ A n cap hlv hsv =>
            have hsv' : sv id = .slice A n cap := hsv
            have e1 : (st.cx P E fc bl sv w).sv id = .slice A n cap := hsv'
            rw [e1] at hln
            exact hln
      · cases hq
    · obtain ⟨cs', ds, l', hk, hds, hrr⟩ := ih _ r l vs' hq h2
      refine ⟨_, _, l', hk, hds, fun D hD hD2 => ?_⟩
      obtain ⟨m', kp, hb⟩ := kill_ok m D hD2
      exact Reps.cons (h1.keep kp) (hrr D hD hD2)

theorem decAll_ok (hE : EnvOk P E) {el : Nat} {c : Cx G} : ∀ (cs : List (List (AV G))) (xs : List (G el)) (vss : List (List Value)), decAll E el cs = some xs → vss.length = cs.length → (∀ (j : Nat) (a : List (AV G)) (v : List Value), cs[j]? = some a → vss[j]? = some v → Reps c a v) →
    Reps c (xs.flatMap (E.enc el)) vss.flatten ∧ xs.length = cs.length := by
  intro cs
  induction cs with
  | nil =>
    intro xs vss h hl _
    simp only [decAll, Option.some.injEq] at h
    subst h
    obtain rfl := List.eq_nil_of_length_eq_zero hl
    exact ⟨Reps.nil c, rfl⟩
  | cons a cs ih =>
    intro xs vss h hl hp
    simp only [decAll] at h
    split at h
    · rename_i x xs' h1 h2
      obtain rfl := Option.some.inj h
      cases vss with
      | nil => simp at hl
      | cons v vss =>
        obtain ⟨e1, e2⟩ := ih xs' vss h2 (by simpa using hl) (fun j a' v' ha hv => hp (j + 1) a' v' (by simpa using ha) (by simpa using hv))
        exact ⟨by simpa using (hE.dec el a x h1 c v (hp 0 a v rfl rfl)).append e1, by simp [e2]⟩
    · cases h

theorem chunks_len {α : Type} (sz : Nat) : ∀ (n : Nat) (cs : List α), (chunks sz n cs).length = n := by
  intro n
  induction n with
  | zero => intro cs; rfl
  | succ n ih => intro cs; simp [chunks, ih]
theorem chunks_flat {α : Type} (sz : Nat) : ∀ (n : Nat) (cs : List α), cs.length = n * sz → (chunks sz n cs).flatten = cs := by
  intro n
  induction n with
  | zero => intro cs h; simp [chunks]; exact List.eq_nil_of_length_eq_zero (by simpa using h)
  | succ n ih =>
    intro cs h
    simp only [chunks, List.flatten_cons]
    rw [ih _ (by simp [h, Nat.succ_mul]), List.take_append_drop]
theorem chunks_reps {c : Cx G} (sz : Nat) : ∀ (n : Nat) (cs : List (AV G)) (vs : List Value), Reps c cs vs → ∀ (j : Nat) (a : List (AV G)) (v : List Value), (chunks sz n cs)[j]? = some a → (chunks sz n vs)[j]? = some v → Reps c a v := by
  intro n
  induction n with
  | zero => intro cs vs _ j a v h; simp [chunks] at h
  | succ n ih =>
    intro cs vs hr j a v ha hv
    cases j with
    | zero =>
      simp only [chunks, List.getElem?_cons_zero, Option.some.injEq] at ha hv
      subst ha; subst hv
      exact hr.take sz
    | succ j => exact ih _ _ (hr.drop sz) j a v (by simpa [chunks] using ha) (by simpa [chunks] using hv)

theorem buildSlice_ok (hE : EnvOk P E) (hR : Rel P E fc bl sv st a w) {t n base : Nat} (hf : st.blk base = none) {ps : List (Nat × AV G)} {qs : Array (Nat × Value)} (hl : qs.toList.length = ps.length)
    (hp : ∀ (j : Nat) (p : Nat × AV G) (q : Nat × Value), ps[j]? = some p → qs.toList[j]? = some q → q.1 = p.1 ∧ Rep (st.cx P E fc bl sv w) p.2 q.2) {e : Eff G} {l : List Nat} (hq : (buildSliceQ P E t n ps base).trace st.blk = some (e, l)) :
    ∃ r w', (Instr.buildSlice t n qs).run P w = .ok r w' ∧ Out P E fc bl sv st w e r w' := by
  unfold buildSliceQ at hq
  split at hq
  · rename_i el hu
    split at hq
    · rename_i b sz hb hsz
      split at hq
      · rename_i cs hle hf'
        · obtain ⟨i, z, hi, hz, hzs, hpos, _⟩ := bytesOf?_inv hb
          have hsi : i.size = sz := by have := hsz; unfold sizeOf? at this; rw [hi] at this; simpa using this
          have hle' : n * sz ≤ 16777216 := Nat.le_of_ble_eq_true hle
          have init : ∀ arr : Array Value, arr.size = n * sz → Reps (st.cx P E fc bl sv w) (List.replicate (n * sz) .any) arr.toList := fun arr h => ⟨by simp [h], fun j hj => by rw [List.getElem_replicate]; exact .any _⟩
          have go : ∀ arr : Array Value, arr.size = n * sz → ∃ us : Array Value, Instr.fill (fun i => some (i * sz, sz)) arr qs.toList = some us ∧ Reps (st.cx P E fc bl sv w) cs us.toList := by
            intro arr ha
            have := fillA_ok (c := st.cx P E fc bl sv w) (place := fun i => some (i * sz, sz)) _ qs.toList _ cs arr.toList hf' (init arr ha) (by rw [hl]; simp) (fun j p q h1 h2 => by
              simp only [List.getElem?_map, Option.map_eq_some_iff] at h1
              obtain ⟨p0, h1, rfl⟩ := h1
              obtain ⟨hq1, hq2⟩ := hp j p0 q h1 h2
              exact ⟨by rw [hq1], hq2⟩)
            simpa using this
          have hfl : ∀ (ps : List (Nat × Nat × AV G)) (c0 c1 : List (AV G)), fillA c0 ps = some c1 → c1.length = c0.length := by
            intro ps
            induction ps with
            | nil => intro c0 c1 h; simp only [fillA, Option.some.injEq] at h; rw [h]
            | cons p ps ih =>
              intro c0 c1 h
              obtain ⟨o, s, v⟩ := p
              simp only [fillA] at h
              split at h
              · rename_i h1 h2 h3
                rw [ih _ _ h]
                have h1' := Nat.eq_of_beq_eq_true h1
                have h2' := Nat.le_of_ble_eq_true h2
                simp only [splice, List.length_append, List.length_take, List.length_drop]
                omega
              · cases h
          have hcl : cs.length = n * sz := by rw [hfl _ _ _ hf']; simp
          obtain ⟨arr, harr, hrun⟩ : ∃ arr : Array Value, arr.size = n * sz ∧ ∀ us : Array Value, Instr.fill (fun i => some (i * sz, sz)) arr qs.toList = some us →
              (Instr.buildSlice t n qs).run P w = .ok (.slice (some ⟨w.heap.size, 0, none⟩) n n) (w.alloc (.cells us el)) := by
            by_cases h0 : n * sz = 0
            · refine ⟨(Array.range 0).map ((#[] : Array Value)[· % (#[] : Array Value).size]!), by simp [h0], fun us hus => ?_⟩
              simp only [Instr.buildSlice, Sem.run_bind, run_underlying hu, Result.andThen_ok, run_sizeOf? hsz, h0, if_true, Sem.run_pure]
              rw [if_neg (by decide)]
              simp only [Sem.run_pure, Result.andThen_ok, hus, newRow, newObj, Sem.run_bind]
              rfl
            · have hzv : (zeroValue el).run P w = .ok z w := by simp [zeroValue, typeInfo, hi, hz]
              refine ⟨(Array.range (n * sz)).map (z.cells[· % z.cells.size]!), by simp, fun us hus => ?_⟩
              simp only [Instr.buildSlice, Sem.run_bind, run_underlying hu, Result.andThen_ok, run_sizeOf? hsz]
              rw [if_neg (by simp; omega)]
              simp only [Sem.run_pure, Result.andThen_ok, if_neg h0, Sem.run_bind, hzv, hus, newRow, newObj]
              rfl
          obtain ⟨us, hus, hru⟩ := go arr harr
          obtain ⟨cs', ds, l', hk, hds, hrr⟩ := frz_ok hE hR.m cs _ e l us.toList hq hru
          split at hk
          · rename_i xs hd
            simp only [Q.trace, Option.some.injEq, Prod.mk.injEq] at hk
            obtain ⟨rfl, _⟩ := hk
            have hr2 := hrr ds (fun _ h => h) hds
            obtain ⟨m', kp, hbk⟩ := kill_ok hR.m ds hds
            have hcr := decAll_ok hE (c := (st.upd (ds.map fun d => (d, (Blk.dead : Blk G)))).cx P E fc bl sv w) (chunks sz n cs') xs (chunks sz n us.toList) hd (by simp [chunks_len]) (chunks_reps sz n cs' us.toList hr2)
            rw [chunks_flat sz n us.toList (by rw [hru.1]; exact hcl)] at hcr
            refine ⟨_, _, hrun us hus, ?_⟩
            have hbase : base ∉ ds := fun h => by have := hds base h; simp [hf] at this
            have hout := out_newrow (n := n) hE m' (by rw [hbk, if_neg hbase]; exact hf) hsz (by rw [hcr.2, chunks_len]) (by simp only [maxLen]; have := Nat.le_mul_of_pos_right n (show 0 < sz by omega); omega) hcr.1
            obtain ⟨bl', sv', m2, k2, r2⟩ := hout
            have hcong : ∀ i, ((st.upd (ds.map fun d => (d, (Blk.dead : Blk G)))).upd [(base, .row el xs)]).blk i = (st.upd ((ds.map fun d => (d, (Blk.dead : Blk G))) ++ [(base, .row el xs)])).blk i := by
              intro i
              rw [St.upd_blk, hbk, St.upd_blk, lk_one]
              have : ∀ l : List Nat, base ∉ l → lk ((l.map fun d => (d, (Blk.dead : Blk G))) ++ [(base, .row el xs)]) i = if i = base then some (.row el xs) else if i ∈ l then some .dead else none := by
                intro l
                induction l with
                | nil => intro _; simp [lk_one]
                | cons d l ih =>
                  intro hb
                  simp only [List.mem_cons, not_or] at hb
                  simp only [List.map_cons, List.cons_append, lk_cons, ih hb.2, List.mem_cons]
                  by_cases h : d = i
                  · subst h; rw [if_pos rfl, if_neg (fun e => hb.1 e.symm)]; simp
                  · have : ¬ i = d := fun e => h e.symm
                    simp [h, this]
              rw [this ds hbase]
              by_cases h1 : i = base
              · simp [h1]
              · by_cases h2 : i ∈ ds <;> simp [h1, h2]
            have hcx := cx_congr (P := P) (E := E) (fc := fc) (bl := bl') (sv := sv') (w := w.alloc (.cells us el)) hcong
            refine ⟨bl', sv', m2.congr hcong, ?_, ?_⟩
            · rw [← hcx]; exact kp.trans k2
            · rw [← hcx]; exact r2
          · cases hk
      · cases hq
    · cases hq
  · cases hq
end
end Go.Proofs.Ytemdppcnhlnicaa.Ev
