/- Memory: what a new block, a store, a row that grows leave. -/
import Derived.Test.YtemdppcnhlnicaaEvC
set_option linter.unusedVariables false
set_option linter.unusedSimpArgs false
namespace Go.Proofs.Ytemdppcnhlnicaa.Ev
open Go Go.RowKit
variable {G : Nat → Type}
section
variable {P : Program} {E : Env G} {fc : FC} {bl : Nat → Nat} {sv : Nat → Value} {st : St G} {a : Act} {w : World}

def at_ {β : Type} (f : Nat → β) (i : Nat) (v : β) : Nat → β := fun x => if x = i then v else f x
theorem at_same {β : Type} (f : Nat → β) (i : Nat) (v : β) : at_ f i v i = v := by simp [at_]
theorem at_other {β : Type} (f : Nat → β) {i x : Nat} (v : β) (h : x ≠ i) : at_ f i v x = f x := by simp [at_, h]
theorem lk_one {β : Type} (i : Nat) (b : β) (x : Nat) : lk [(i, b)] x = if x = i then some b else none := by
  rw [lk_cons]; by_cases h : i = x
  · subst h; simp
  · simp [h, lk]; intro h'; exact absurd h'.symm h

theorem out_alloc (m : MRel P E fc bl sv st w) {base t : Nat} (hf : st.blk base = none) {cs : List (AV G)} {vs : List Value} (hr : Reps (st.cx P E fc bl sv w) cs vs) :
    Out P E fc bl sv st w ⟨.ptr base 0, [(base, .fix t cs)]⟩ (.pointer (some ⟨w.heap.size, 0, none⟩)) (w.alloc (.cells vs.toArray t)) := by
  have hb : ∀ id, (st.upd [(base, .fix t cs)]).blk id = if id = base then some (.fix t cs) else st.blk id := by
    intro id; rw [St.upd_blk, lk_one]; split <;> simp
  have hown : ∀ id g, id = base → owns (st.upd [(base, .fix t cs)]) (at_ bl base w.heap.size) sv id g → g = w.heap.size := by
    intro id g hid ho; subst hid
    unfold owns at ho; rw [hb, if_pos rfl] at ho
    simp only [at_same] at ho; exact ho.symm
  have := m.change (U := (· = base)) (bl' := at_ bl base w.heap.size) (sv' := sv) (st' := st.upd [(base, .fix t cs)]) (w' := w.alloc (.cells vs.toArray t)) rfl rfl rfl (by simp)
    (fun g hg _ => Below.heap_alloc w _ g hg)
    (fun id hid => by rw [hb, if_neg hid])
    (fun id hid => by
      have hne : id ≠ base := fun e => by subst e; simp [hf] at hid
      exact ⟨by rw [hb, if_neg hne]; exact hid, at_other _ _ hne, rfl⟩)
    (fun id g hid ho => .inr (Nat.le_of_eq (hown id g hid ho).symm))
    (fun id id' g h1 h2 _ _ => h1.trans h2.symm)
    (fun k id b hid hbk => by
      rw [hb, if_pos hid] at hbk
      obtain rfl := Option.some.inj hbk
      refine ⟨vs, ?_, hr.keep k⟩
      show (w.alloc _).heap[at_ bl base w.heap.size id]? = _
      rw [hid, at_same]
      exact heap_alloc_new w _)
  obtain ⟨m', k⟩ := this
  refine ⟨_, _, m', k, ?_⟩
  have := Rep.ptr (c := (st.upd [(base, .fix t cs)]).cx P E fc (at_ bl base w.heap.size) sv (w.alloc (.cells vs.toArray t))) base 0 (by show (St.blk _ base).isSome = true; rw [hb, if_pos rfl]; rfl)
  have e : ((st.upd [(base, .fix t cs)]).cx P E fc (at_ bl base w.heap.size) sv (w.alloc (.cells vs.toArray t))).bl base = w.heap.size := at_same _ _ _
  rw [e] at this
  exact this

theorem heap_setRow_other (w : World) (g : Nat) (cs : Array Value) (k : Nat) (h : k ≠ g) : (w.setRow g cs).heap[k]? = w.heap[k]? := by
  simp only [World.setRow, Array.getElem?_modify]
  rw [if_neg (fun e => h e.symm)]

theorem out_set (m : MRel P E fc bl sv st w) {id t : Nat} {cs cs' : List (AV G)} (hid : st.blk id = some (.fix t cs)) {vs : List Value} (hr : Reps (st.cx P E fc bl sv w) cs' vs) {r : AV G} {v : Value} (hrv : Rep (st.cx P E fc bl sv w) r v) :
    Out P E fc bl sv st w ⟨r, [(id, .fix t cs')]⟩ v (w.setRow (bl id) vs.toArray) := by
  have hb : ∀ i, (st.upd [(id, .fix t cs')]).blk i = if i = id then some (.fix t cs') else st.blk i := by
    intro i; rw [St.upd_blk, lk_one]; split <;> simp
  obtain ⟨old, hold, _⟩ := m.blks id _ hid
  have hold' : w.heap[bl id]? = some (.cells old.toArray t (0, 0)) := hold
  have ho : ∀ i g, owns (st.upd [(id, .fix t cs')]) bl sv i g ↔ owns st bl sv i g := by
    intro i g
    unfold owns
    rw [hb]
    by_cases e : i = id
    · subst e; simp [hid]
    · simp [e]
  have := m.change (U := (· = id)) (bl' := bl) (sv' := sv) (st' := st.upd [(id, .fix t cs')]) (w' := w.setRow (bl id) vs.toArray) rfl rfl rfl (by simp)
    (fun g hg hu => heap_setRow_other w _ _ g fun e => hu id rfl (by unfold owns; rw [hid]; exact e.symm))
    (fun i hi => by rw [hb, if_neg hi])
    (fun i hi => ⟨by rw [hb]; by_cases e : i = id <;> simp [e, hi], rfl, rfl⟩)
    (fun i g hi h => .inl ⟨i, hi, (ho i g).1 h⟩)
    (fun i i' g h1 h2 _ _ => h1.trans h2.symm)
    (fun k i b hi hbk => by
      rw [hb, if_pos hi] at hbk
      obtain rfl := Option.some.inj hbk
      refine ⟨vs, ?_, hr.keep k⟩
      show (w.setRow _ _).heap[bl i]? = _
      rw [hi]
      exact setRow_heap w _ _ _ t (0, 0) hold')
  obtain ⟨m', k⟩ := this
  exact ⟨_, _, m', k, hrv.keep k⟩

/-- A row of the call's own, new or grown; the numbers in D are let go. -/
theorem out_row (m : MRel P E fc bl sv st w) {base e sz : Nat} (hf : st.blk base = none) (D : List Nat) (hD : ∀ d ∈ D, (st.blk d).isSome = true) {xs : List (G e)} {vs : List Value} {v : Value} {w' : World} {row : Option Nat}
    (hsz : sizeOf? P e = some sz) (hown : w'.ownsRow 0 e sz v xs.length vs) (hg : w.grownBy w' row) (hrow : ∀ g, row = some g → ∃ d ∈ D, owns st bl sv d g)
    (hv : ∀ g, v.ownBlock = some g → row = some g ∨ w.heap.size ≤ g)
    (hr : Reps (st.cx P E fc bl sv w) (xs.flatMap (E.enc e)) vs) (hl : ∀ x ∈ xs, (E.enc e x).length = sz) (hdr : w.drawn ≤ w'.drawn) :
    Out P E fc bl sv st w ⟨.osl base, (D.map fun d => (d, .dead)) ++ [(base, .row e xs)]⟩ v w' := by
  have hbD : base ∉ D := fun h => by have := hD base h; simp [hf] at this
  have hlk : ∀ (l : List Nat) i, lk ((l.map fun d => (d, (Blk.dead : Blk G))) ++ [(base, .row e xs)]) i = if i ∈ l then some .dead else if i = base then some (.row e xs) else none := by
    intro l i
    induction l with
    | nil => simp [lk_one]
    | cons d l ih =>
      simp only [List.map_cons, List.cons_append, lk_cons, ih, List.mem_cons]
      by_cases h : d = i
      · subst h; simp
      · have : ¬ i = d := fun e => h e.symm
        simp [h, this]
  have hb : ∀ i, (st.upd ((D.map fun d => (d, (Blk.dead : Blk G))) ++ [(base, .row e xs)])).blk i = if i ∈ D then some .dead else if i = base then some (.row e xs) else st.blk i := by
    intro i; rw [St.upd_blk, hlk]
    by_cases h1 : i ∈ D
    · simp [h1]
    · by_cases h2 : i = base
      · subst h2; simp [h1]
      · simp [h1, h2]
  obtain ⟨A, n, cap, hvf⟩ : ∃ A n cap, v = .slice A n cap := by
    rcases hown.2 with ⟨h1, _⟩ | ⟨g, cap, cur, h1, _⟩
    · exact ⟨none, 0, 0, h1⟩
    · exact ⟨_, _, _, h1⟩
  have hob : ∀ i g, (i ∈ D ∨ i = base) → owns (st.upd ((D.map fun d => (d, (Blk.dead : Blk G))) ++ [(base, .row e xs)])) bl (at_ sv base v) i g → i = base ∧ v.ownBlock = some g := by
    intro i g hi ho
    unfold owns at ho
    rw [hb] at ho
    by_cases hiD : i ∈ D
    · simp [hiD] at ho
    · have hib : i = base := hi.resolve_left hiD
      subst hib
      simp only [hiD, if_false, if_true, at_same] at ho
      exact ⟨rfl, ho⟩
  have := m.change (U := fun i => i ∈ D ∨ i = base) (bl' := bl) (sv' := at_ sv base v) (st' := st.upd ((D.map fun d => (d, (Blk.dead : Blk G))) ++ [(base, .row e xs)])) (w' := w') hg.os hg.tape hg.output hg.size
    (fun g hgl hu => hg.block g hgl fun e => by
      obtain ⟨d, hd, ho⟩ := hrow g e.symm
      exact hu d (.inl hd) ho)
    (fun i hi => by rw [hb, if_neg (fun h => hi (.inl h)), if_neg (fun h => hi (.inr h))])
    (fun i hi => by
      have hne : i ≠ base := fun e => by subst e; simp [hf] at hi
      refine ⟨?_, rfl, at_other _ _ hne⟩
      rw [hb]
      by_cases h1 : i ∈ D
      · simp [h1]
      · simp [h1, hne, hi])
    (fun i g hi ho => by
      obtain ⟨_, hvg⟩ := hob i g hi ho
      rcases hv g hvg with h | h
      · obtain ⟨d, hd, ho'⟩ := hrow g h
        exact .inl ⟨d, .inl hd, ho'⟩
      · exact .inr h)
    (fun i i' g h1 h2 o1 o2 => (hob i g h1 o1).1.trans (hob i' g h2 o2).1.symm)
    (fun k i b hi hbk => by
      rw [hb] at hbk
      by_cases hiD : i ∈ D
      · rw [if_pos hiD] at hbk; obtain rfl := Option.some.inj hbk; trivial
      · have hib : i = base := hi.resolve_left hiD
        rw [if_neg hiD, if_pos hib] at hbk
        obtain rfl := Option.some.inj hbk
        refine ⟨sz, vs, hsz, ?_, hr.keep k, hl⟩
        show w'.ownsRow 0 e sz (at_ sv base v i) xs.length vs
        rw [hib, at_same]
        exact hown)
    hdr
  obtain ⟨m', k⟩ := this
  refine ⟨_, _, m', k, ?_⟩
  subst hvf
  exact Rep.osl base A n cap (by show (St.blk _ base).isSome = true; rw [hb, if_neg hbD, if_pos rfl]; rfl) (at_same _ _ _)

/-- A store into a row of the call's own. -/
theorem out_rowset (m : MRel P E fc bl sv st w) {id e sz g n cap : Nat} {xs xs' : List (G e)} (hid : st.blk id = some (.row e xs)) (hsv : sv id = .slice (some ⟨g, 0, none⟩) n cap) (hlen : xs'.length = xs.length) {vs : List Value} {new cur : Array Value}
    (hsz : sizeOf? P e = some sz) (hcur : w.heap[g]? = some (.cells cur e (0, 0))) (hns : new.size = cur.size) (htake : new.toList.take (xs.length * sz) = vs)
    (hr : Reps (st.cx P E fc bl sv w) (xs'.flatMap (E.enc e)) vs) (hl : ∀ x ∈ xs', (E.enc e x).length = sz) {r : AV G} {v : Value} (hrv : Rep (st.cx P E fc bl sv w) r v) :
    Out P E fc bl sv st w ⟨r, [(id, .row e xs')]⟩ v (w.setRow g new) := by
  have hb : ∀ i, (st.upd [(id, .row e xs')]).blk i = if i = id then some (.row e xs') else st.blk i := by
    intro i; rw [St.upd_blk, lk_one]; split <;> simp
  have ho : ∀ i g, owns (st.upd [(id, .row e xs')]) bl sv i g ↔ owns st bl sv i g := by
    intro i g
    unfold owns
    rw [hb]
    by_cases e : i = id
    · subst e; simp [hid]
    · simp [e]
  obtain ⟨sz', vs', hsz', hown, _, _⟩ := m.blks id _ hid
  have hown' : w.ownsRow 0 e sz' (sv id) xs.length vs' := hown
  have hszz : sz' = sz := by
    have : sizeOf? P e = some sz' := hsz'
    rw [hsz] at this; exact (Option.some.inj this).symm
  subst hszz
  have hog : owns st bl sv id g := by unfold owns; rw [hid]; simp [hsv, Value.ownBlock]
  have := m.change (U := (· = id)) (bl' := bl) (sv' := sv) (st' := st.upd [(id, .row e xs')]) (w' := w.setRow g new) rfl rfl rfl (by simp)
    (fun k hk hu => heap_setRow_other w _ _ k fun e => hu id rfl (e ▸ hog))
    (fun i hi => by rw [hb, if_neg hi])
    (fun i hi => ⟨by rw [hb]; by_cases e : i = id <;> simp [e, hi], rfl, rfl⟩)
    (fun i g hi h => .inl ⟨i, hi, (ho i g).1 h⟩)
    (fun i i' g h1 h2 _ _ => h1.trans h2.symm)
    (fun k i b hi hbk => by
      rw [hb, if_pos hi] at hbk
      obtain rfl := Option.some.inj hbk
      refine ⟨sz', vs, hsz, ?_, hr.keep k, hl⟩
      show (w.setRow g new).ownsRow 0 e sz' (sv i) xs'.length vs
      rw [hi, hlen]
      rcases hown'.2 with ⟨h1, _⟩ | ⟨g', cap', cur', hv, hg, hh, r1, r2, r3, r4⟩
      · rw [hsv] at h1; simp at h1
      · rw [hsv] at hv
        simp only [Value.slice.injEq, Option.some.injEq, Addr.mk.injEq] at hv
        obtain ⟨⟨rfl, _⟩, rfl, rfl⟩ := hv
        rw [hcur] at hh
        obtain rfl : cur = cur' := by simpa using hh
        refine ⟨?_, .inr ⟨g, cap, new, hsv, Nat.zero_le _, setRow_heap w g cur new e (0, 0) hcur, r1, r2, by rw [hns]; exact r3, htake⟩⟩
        have hle := Nat.mul_le_mul_right sz' r1
        have hls : new.toList.length = cap * sz' := by rw [Array.length_toList, hns, r3]
        rw [← htake, List.length_take, hls]
        omega)
  obtain ⟨m', k⟩ := this
  exact ⟨_, _, m', k, hrv.keep k⟩

end
end Go.Proofs.Ytemdppcnhlnicaa.Ev
