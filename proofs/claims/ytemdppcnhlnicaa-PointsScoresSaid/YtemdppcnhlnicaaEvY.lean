/- The record of a loop over a function: made, told anew, let go. -/
import Derived.Test.YtemdppcnhlnicaaEvN
set_option linter.unusedVariables false
set_option linter.unusedSimpArgs false
namespace Go.Proofs.Ytemdppcnhlnicaa.Ev
open Go Go.RowKit
variable {G : Nat → Type}
section
variable {P : Program} {E : Env G} {fc : FC} {bl : Nat → Nat} {sv : Nat → Value} {st : St G} {a : Act} {w : World}

theorem lp_inv (m : MRel P E fc bl sv st w) {id key : Nat} {ls : LS} {cs : List (AV G)} (hid : st.blk id = some (.lp key ls cs)) :
    ∃ vs ps as bd D, w.heap[bl id]? = some (.loop (loopRec key ls vs ps as bd D)) ∧ siteOf P key = some (ps, as, bd) ∧ Reps (st.cx P E fc bl sv w) cs vs := m.blks id _ hid
/-- The record told anew. -/
theorem set_lp (m : MRel P E fc bl sv st w) {id key : Nat} {ls ls' : LS} {cs : List (AV G)} (hid : st.blk id = some (.lp key ls cs)) {vs : List Value} {ps : Array Tmp} {as bd : Code} {D : Nat}
    (hv : w.heap[bl id]? = some (.loop (loopRec key ls vs ps as bd D))) (hs : siteOf P key = some (ps, as, bd)) (hr : Reps (st.cx P E fc bl sv w) cs vs) :
    MRel P E fc bl sv (st.upd [(id, .lp key ls' cs)]) (w.putObj (bl id) (.loop (loopRec key ls' vs ps as bd D))) ∧ Keeps (st.cx P E fc bl sv w) ((st.upd [(id, .lp key ls' cs)]).cx P E fc bl sv (w.putObj (bl id) (.loop (loopRec key ls' vs ps as bd D)))) := by
  have hb : ∀ i, (st.upd [(id, .lp key ls' cs)]).blk i = if i = id then some (.lp key ls' cs) else st.blk i := by
    intro i; rw [St.upd_blk, lk_one]; split <;> simp
  have ho : ∀ i g, owns (st.upd [(id, .lp key ls' cs)]) bl sv i g ↔ owns st bl sv i g := by
    intro i g
    unfold owns
    rw [hb]
    by_cases e : i = id
    · subst e; simp [hid]
    · simp [e]
  exact m.change (U := (· = id)) (bl' := bl) (sv' := sv) (st' := st.upd [(id, .lp key ls' cs)]) (w' := w.putObj (bl id) (.loop (loopRec key ls' vs ps as bd D))) rfl rfl rfl (by simp)
    (fun g hg hu => World.putObj_heap_other fun e => hu id rfl (by unfold owns; rw [hid]; exact e.symm))
    (fun i hi => by rw [hb, if_neg hi])
    (fun i hi => ⟨by rw [hb]; by_cases e : i = id <;> simp [e, hi], rfl, rfl⟩)
    (fun i g hi h => .inl ⟨i, hi, (ho i g).1 h⟩)
    (fun i i' g h1 h2 _ _ => h1.trans h2.symm)
    (fun k i b hi hbk => by
      rw [hb, if_pos hi] at hbk
      obtain rfl := Option.some.inj hbk
      refine ⟨vs, ps, as, bd, D, ?_, hs, hr.keep k⟩
      show (w.putObj _ _).heap[bl i]? = _
      rw [hi]
      exact World.putObj_heap_same (Array.getElem?_eq_some_iff.1 hv).1)
/-- The record let go. -/
theorem end_lp (m : MRel P E fc bl sv st w) {id key : Nat} {ls : LS} {cs : List (AV G)} (hid : st.blk id = some (.lp key ls cs)) (o : Obj) :
    MRel P E fc bl sv (st.upd [(id, .dead)]) (w.putObj (bl id) o) ∧ Keeps (st.cx P E fc bl sv w) ((st.upd [(id, .dead)]).cx P E fc bl sv (w.putObj (bl id) o)) := by
  have hb : ∀ i, (st.upd [(id, (.dead : Blk G))]).blk i = if i = id then some .dead else st.blk i := by
    intro i; rw [St.upd_blk, lk_one]; split <;> simp
  have ho : ∀ g, ¬ owns (st.upd [(id, (.dead : Blk G))]) bl sv id g := by
    intro g h
    unfold owns at h
    rw [hb, if_pos rfl] at h
    exact h
  exact m.change (U := (· = id)) (bl' := bl) (sv' := sv) (st' := st.upd [(id, .dead)]) (w' := w.putObj (bl id) o) rfl rfl rfl (by simp)
    (fun g hg hu => World.putObj_heap_other fun e => hu id rfl (by unfold owns; rw [hid]; exact e.symm))
    (fun i hi => by rw [hb, if_neg hi])
    (fun i hi => ⟨by rw [hb]; by_cases e : i = id <;> simp [e, hi], rfl, rfl⟩)
    (fun i g hi h => by subst hi; exact absurd h (ho g))
    (fun i i' g h1 h2 _ _ => h1.trans h2.symm)
    (fun k i b hi hbk => by
      rw [hb, if_pos hi] at hbk
      obtain rfl := Option.some.inj hbk
      trivial)
/-- What an outermost loop lays: the block of the deferred calls, and the record. -/
def laid (w : World) (key : Nat) (vs : List Value) (ps : Array Tmp) (as bd : Code) : World := (w.alloc (.deferred (some []))).alloc (.loop (loopRec key .ready vs ps as bd w.heap.size))
theorem laid_size (w : World) (key : Nat) (vs : List Value) (ps : Array Tmp) (as bd : Code) : (laid w key vs ps as bd).heap.size = w.heap.size + 2 := by simp [laid]
theorem laid_old (w : World) (key : Nat) (vs : List Value) (ps : Array Tmp) (as bd : Code) {g : Nat} (h : g < w.heap.size) : (laid w key vs ps as bd).heap[g]? = w.heap[g]? := by
  unfold laid
  rw [Below.heap_alloc _ _ g (by simp; omega), Below.heap_alloc _ _ g h]
theorem laid_mark (w : World) (key : Nat) (vs : List Value) (ps : Array Tmp) (as bd : Code) : (laid w key vs ps as bd).heap[w.heap.size]? = some (.deferred (some [])) := by
  unfold laid
  rw [Below.heap_alloc _ _ _ (by simp)]
  exact World.alloc_heap_new w _
theorem laid_rec (w : World) (key : Nat) (vs : List Value) (ps : Array Tmp) (as bd : Code) : (laid w key vs ps as bd).heap[w.heap.size + 1]? = some (.loop (loopRec key .ready vs ps as bd w.heap.size)) := by
  have := World.alloc_heap_new (w.alloc (.deferred (some []))) (.loop (loopRec key .ready vs ps as bd w.heap.size))
  rw [show (w.alloc (.deferred (some []))).heap.size = w.heap.size + 1 by simp] at this
  exact this
theorem new_lp (m : MRel P E fc bl sv st w) {base key : Nat} (hf : st.blk base = none) {cs : List (AV G)} {vs : List Value} {ps : Array Tmp} {as bd : Code} (hs : siteOf P key = some (ps, as, bd)) (hr : Reps (st.cx P E fc bl sv w) cs vs) :
    MRel P E fc (at_ bl base (w.heap.size + 1)) sv (st.upd [(base, .lp key .ready cs)]) (laid w key vs ps as bd) ∧ Keeps (st.cx P E fc bl sv w) ((st.upd [(base, .lp key .ready cs)]).cx P E fc (at_ bl base (w.heap.size + 1)) sv (laid w key vs ps as bd)) ∧
    ¬ ((st.upd [(base, .lp key .ready cs)]).cx P E fc (at_ bl base (w.heap.size + 1)) sv (laid w key vs ps as bd)).ow w.heap.size := by
  have hb : ∀ id, (st.upd [(base, .lp key .ready cs)]).blk id = if id = base then some (.lp key .ready cs) else st.blk id := by
    intro id; rw [St.upd_blk, lk_one]; split <;> simp
  have hown : ∀ id g, id = base → owns (st.upd [(base, .lp key .ready cs)]) (at_ bl base (w.heap.size + 1)) sv id g → g = w.heap.size + 1 := by
    intro id g hid ho; subst hid
    unfold owns at ho; rw [hb, if_pos rfl] at ho
    simp only [at_same] at ho; exact ho.symm
  have c := m.change (U := (· = base)) (bl' := at_ bl base (w.heap.size + 1)) (sv' := sv) (st' := st.upd [(base, .lp key .ready cs)]) (w' := laid w key vs ps as bd) rfl rfl rfl (by rw [laid_size]; omega)
    (fun g hg _ => laid_old w key vs ps as bd hg)
    (fun id hid => by rw [hb, if_neg hid])
    (fun id hid => by
      have hne : id ≠ base := fun e => by subst e; simp [hf] at hid
      exact ⟨by rw [hb, if_neg hne]; exact hid, at_other _ _ hne, rfl⟩)
    (fun id g hid ho => .inr (by rw [hown id g hid ho]; omega))
    (fun id id' g h1 h2 _ _ => h1.trans h2.symm)
    (fun k id b hid hbk => by
      rw [hb, if_pos hid] at hbk
      obtain rfl := Option.some.inj hbk
      refine ⟨vs, ps, as, bd, w.heap.size, ?_, hs, hr.keep k⟩
      show (laid _ _ _ _ _ _).heap[at_ bl base (w.heap.size + 1) id]? = _
      rw [hid, at_same]
      exact laid_rec w key vs ps as bd)
  refine ⟨c.1, c.2, ?_⟩
  rintro (⟨id, hi⟩ | hi)
  · by_cases e : id = base
    · have := hown id _ e hi; omega
    · have : owns st bl sv id w.heap.size := by
        unfold owns at hi ⊢
        rw [hb, if_neg e] at hi
        rw [at_other _ _ e] at hi
        exact hi
      have := owns_lt m this
      omega
  · have := (fc.calm _ hi).1
    have := m.grow
    omega
/-- A state that is told anew, seen by an activation. -/
theorem Rel.move (h : Rel P E fc bl sv st a w) {bl' : Nat → Nat} {sv' : Nat → Value} {st' : St G} {w' : World} (m : MRel P E fc bl' sv' st' w') (k : Keeps (st.cx P E fc bl sv w) (st'.cx P E fc bl' sv' w')) (ht : ∀ d, st'.get d = st.get d) : Rel P E fc bl' sv' st' a w' :=
  ⟨m, (by obtain ⟨ds, h1, h2, h3⟩ := h.marks; exact ⟨ds, h1, h2, marks_keep k h3⟩), h.size, fun d => by rw [ht d]; exact (h.tmps d).keep k⟩
/-- One mark more. -/
theorem Rel.mark (h : Rel P E fc bl sv st a w) {D : Nat} (h1 : w.heap[D]? = some (.deferred (some []))) (h2 : fc.w0.heap.size ≤ D) (h3 : ¬ (st.cx P E fc bl sv w).ow D) (hn : ∀ ds : List Nat, a.defers = ds.map markOf → D ∉ ds) :
    Rel P E fc bl sv st { a with defers := [{ target := .collected D, args := #[] }] ++ a.defers } w := by
  obtain ⟨ds, e, nd, hd⟩ := h.marks
  refine ⟨h.m, ⟨D :: ds, ?_, List.nodup_cons.2 ⟨hn ds e, nd⟩, fun x hx => ?_⟩, h.size, h.tmps⟩
  · show [_] ++ a.defers = _
    rw [e]; rfl
  · rcases List.mem_cons.1 hx with rfl | hx
    · exact ⟨h1, h2, h3⟩
    · exact hd x hx
end
end Go.Proofs.Ytemdppcnhlnicaa.Ev
