/- Functions, known as functions on terms. -/
import Derived.Test.YtemdppcnhlnicaaEvMb
set_option linter.unusedVariables false
set_option linter.unusedSimpArgs false
namespace Go.Proofs.Ytemdppcnhlnicaa.Ev
open Go Go.RowKit
variable {G : Nat → Type}

theorem lk_zipS {c : Cx G} (g : Nat → Value) : ∀ (ds : List Nat) (as : List (AV G)), Reps c as (ds.map g) → ∀ d a, lk (zipS ds as) d = some a → Rep c a (g d) := by
  intro ds
  induction ds with
  | nil => intro as _ d a h; cases as <;> simp [zipS, lk] at h
  | cons x ds ih =>
    intro as hr d a h
    cases as with
    | nil => simp [zipS, lk] at h
    | cons b as =>
      obtain ⟨v, vs, hv, h1, h2⟩ := hr.cons_inv
      simp only [List.map_cons, List.cons.injEq] at hv
      obtain ⟨rfl, rfl⟩ := hv
      simp only [zipS, lk_cons] at h
      split at h
      · rename_i hh; subst hh; simp only [Option.some.injEq] at h; subst h; exact h1
      · exact ih as h2 d a h

section
variable {P : Program} {E : Env G} {C : Oracle G} {fc : FC} {st : St G} {a : Act} {w : World}

theorem cut_ok (hE : EnvOk P E) {R V : Type} {slots : List (Nat × Pat)} {foot : List Pat} {dec : List (AV G) → List (Nat × Blk G) → Option V} {enc : V → List (AV G) × List (Nat × Blk G)} {K : V → Option R} {r : R}
    (hdec : ∀ as hp v, dec as hp = some v → enc v = (as, hp)) (hfoot : ∀ j, fc.an j → ∃ p ∈ foot, footN p = j) (h : cutK P E slots foot dec K st = some r) (hb : Bears P E fc st a w) :
    ∃ v, K v = some r ∧ Bears P E fc (cutSt slots (enc v)) a w := by
  obtain ⟨hok, bl, sv, hR0⟩ := hb
  obtain ⟨sv, hR⟩ := normF_ok hE hfoot slots hR0
  unfold cutK at h
  obtain ⟨v, bl', sv', hk, hlt, _, hm⟩ := tell_ok (vals := slots.map fun p => a.tmps.getD p.1 undef) hE hR.m (by
    intro vs l hq
    obtain rfl := ret_inv hq
    exact ⟨by simp, fun j hj => by
      have hj' : j < slots.length := by simpa using hj
      have h5 := hR.tmps slots[j].1
      rw [normF_get] at h5
      simpa [List.getD, hj'] using h5⟩) hdec hfoot h
  obtain ⟨m, rs, how⟩ := hm (cutSt slots (enc v)) rfl
  refine ⟨v, hk, ?_, bl', sv', m, (by obtain ⟨ds, h1, h2, h3⟩ := hR.marks; exact ⟨ds, h1, h2, fun D hD => ⟨(h3 D hD).1, (h3 D hD).2.1, fun ho => (h3 D hD).2.2 (how D ho)⟩⟩), hR.size, fun d => ?_⟩
  · intro id hid
    show lk (enc v).2 id = none
    cases hh : lk (enc v).2 id with
    | none => rfl
    | some b => have := hlt id (by rw [hh]; rfl); have hid' : stride ≤ id := hid; omega
  · unfold St.get
    cases hh : lk (cutSt slots (enc v)).tmps d with
    | none => exact .any _
    | some x =>
      have hh' : lk (zipS (slots.map (·.1)) (enc v).1) d = some x := hh
      refine lk_zipS (fun d => a.tmps.getD d undef) (slots.map (·.1)) (enc v).1 ?_ d x hh'
      have e : (slots.map (·.1)).map (fun d => a.tmps.getD d undef) = slots.map fun p => a.tmps.getD p.1 undef := by simp
      rw [e]; exact rs

/-! ### Cuts -/
theorem todo_sub : ∀ (c : Code) (k : List Item), ∀ p ∈ cutsC c k, ∀ q ∈ cutsT p.2, q ∈ cutsC c k ∨ q ∈ cutsT k := by
  intro c
  induction c with
  | region id ops d =>
    intro k p hp q hq
    simp only [cutsC, List.mem_singleton] at hp
    subst hp
    simpa [cutsT, cutsC] using hq
  | rangeFunc f ps as bd =>
    intro k p hp q hq
    simp only [cutsC, List.mem_singleton] at hp
    subst hp
    simpa [cutsT, cutsC] using hq
  | seq c1 c2 ih1 ih2 =>
    intro k p hp q hq
    simp only [cutsC, List.mem_append] at hp ⊢
    rcases hp with hp | hp
    · rcases ih1 _ p hp q hq with h | h
      · exact .inl (.inl h)
      · simp only [cutsT, List.mem_append] at h
        rcases h with h | h
        · exact .inl (.inr h)
        · exact .inr h
    · rcases ih2 _ p hp q hq with h | h
      · exact .inl (.inr h)
      · exact .inr h
  | cond x c1 c2 ih1 ih2 =>
    intro k p hp q hq
    simp only [cutsC, List.mem_append] at hp ⊢
    rcases hp with hp | hp
    · rcases ih1 _ p hp q hq with h | h
      · exact .inl (.inl h)
      · exact .inr h
    · rcases ih2 _ p hp q hq with h | h
      · exact .inl (.inr h)
      · exact .inr h
  | block id c ih =>
    intro k p hp q hq
    simp only [cutsC] at hp ⊢
    rcases ih _ p hp q hq with h | h
    · exact .inl h
    · exact .inr (by simpa [cutsT] using h)
  | loop c ih =>
    intro k p hp q hq
    simp only [cutsC] at hp ⊢
    rcases ih _ p hp q hq with h | h
    · exact .inl h
    · simp only [cutsT, List.mem_append] at h
      exact h
  | scope c ih =>
    intro k p hp q hq
    simp only [cutsC] at hp ⊢
    rcases ih _ p hp q hq with h | h
    · exact .inl h
    · simp only [cutsT, List.mem_append] at h
      exact h
  | _ => intro k p hp; simp [cutsC] at hp

theorem mem_of_mem {x : Nat} : ∀ {l : List Nat}, mem x l = true ↔ x ∈ l := by
  intro l
  induction l with
  | nil => simp [mem]
  | cons y r ih =>
    unfold mem
    split
    · rename_i h; have := Nat.eq_of_beq_eq_true h; subst this; simp
    · rename_i h
      have : ¬ x = y := fun e => by subst e; simp at h
      simp [ih, this]
theorem lk_nodup {β : Type} : ∀ {l : List (Nat × β)}, nodupB (l.map (·.1)) = true → ∀ p ∈ l, lk l p.1 = some p.2 := by
  intro l
  induction l with
  | nil => intro _ p hp; simp at hp
  | cons q r ih =>
    obtain ⟨k, v⟩ := q
    intro hn p hp
    simp only [List.map_cons, nodupB] at hn
    split at hn
    · cases hn
    · rename_i hm
      rcases List.mem_cons.1 hp with rfl | hp
      · rw [lk_cons, if_pos rfl]
      · rw [lk_cons]
        split
        · rename_i hh
          have : k ∈ r.map (·.1) := by rw [hh]; exact List.mem_map_of_mem hp
          rw [← mem_of_mem, hm] at this; cases this
        · exact ih hn p hp

theorem key_div (g n : Nat) (h : n < 1024) : (g * 1024 + n) / 1024 = g ∧ (g * 1024 + n) % 1024 = n := by omega
theorem cut_head : ∀ (c : Code) (k : List Item), ∀ p ∈ cutsC c k, ∀ f ps as bd k', p.2 = .code (.rangeFunc f ps as bd) :: k' → p.1 = keyOf as bd := by
  intro c
  induction c with
  | region id ops d =>
    intro k p hp f ps as bd k' h
    simp only [cutsC, List.mem_singleton] at hp
    subst hp
    cases h
  | rangeFunc f0 ps0 as0 bd0 =>
    intro k p hp f ps as bd k' h
    simp only [cutsC, List.mem_singleton] at hp
    subst hp
    cases h; rfl
  | seq c1 c2 ih1 ih2 =>
    intro k p hp
    simp only [cutsC, List.mem_append] at hp
    rcases hp with hp | hp
    · exact ih1 _ p hp
    · exact ih2 _ p hp
  | cond x c1 c2 ih1 ih2 =>
    intro k p hp
    simp only [cutsC, List.mem_append] at hp
    rcases hp with hp | hp
    · exact ih1 _ p hp
    · exact ih2 _ p hp
  | block id c ih => intro k p hp; simp only [cutsC] at hp; exact ih _ p hp
  | loop c ih => intro k p hp; simp only [cutsC] at hp; exact ih _ p hp
  | scope c ih => intro k p hp; simp only [cutsC] at hp; exact ih _ p hp
  | _ => intro k p hp; simp [cutsC] at hp
theorem footEq_right {f g : List Pat} (h : footEq f g = true) {j : Nat} (hj : ∃ p ∈ g, footN p = j) : ∃ p ∈ f, footN p = j := by
  unfold footEq at h
  simp only [Bool.and_eq_true] at h
  obtain ⟨p, hp, rfl⟩ := hj
  have := List.all_eq_true.1 h.2 p hp
  obtain ⟨q, hq, e⟩ := List.mem_map.1 (mem_of_mem.1 this)
  exact ⟨q, hq, e⟩
/-- A cut, told by functions on terms. -/
def CutOk (P : Program) (E : Env G) (C : Oracle G) {R : Type} (rd : Bool) (fid nt : Nat) (cuts : List Nat) (fin : Option Code → St G → Option R) (N : Nat) (S : List (Nat × List Item)) (foot : List Pat) (L : Nat → Nat → St G → Option R) (id : Nat) : Prop :=
  ∃ (V : Type) (ft : List Pat) (slots : List (Nat × Pat)) (dec : List (AV G) → List (Nat × Blk G) → Option V) (enc : V → List (AV G) × List (Nat × Blk G)) (l : Nat → V → Option R),
    (∀ as hp v, dec as hp = some v → enc v = (as, hp)) ∧ (∀ k st, L k id st = cutK P E slots ft dec (l k) st) ∧ (∀ v, l 0 v = none) ∧ footEq ft foot = true ∧
    ∀ k v r, l (k + 1) v = some r → evCut P E C rd fid nt (fun i => mem i cuts) (L k) fin N ((lk S id).getD []) (cutSt slots (enc v)) = some r

theorem cuts_ok (hE : EnvOk P E) (hC : OracleOk P E C) (hmix : P.follows .mixedOrders = true) {R : Type} {nt : Nat} (hnt : fc.nt = nt) {ro : Option Nat} (hro : ROk fc ro) {fid : Nat} {rd : Bool} (hrd : rd = false → ro = none) {cuts : List Nat} {fin : Option Code → St G → Option R} {N : Nat} {S : List (Nat × List Item)} {foot : List Pat} {L : Nat → Nat → St G → Option R}
    (hfoot : ∀ j, fc.an j → ∃ p ∈ foot, footN p = j) (huniq : nodupB (S.map (·.1)) = true) (hsub : ∀ p ∈ S, ∀ q ∈ cutsT p.2, q ∈ S) (hsite : rd = false → ∀ p ∈ S, ∀ f ps as bd k, p.2 = .code (.rangeFunc f ps as bd) :: k → keyOf as bd < 1024 → siteOf P (fid * 1024 + keyOf as bd) = some (ps, as, bd)) (hL : ∀ id ∈ cuts, CutOk P E C rd fid nt cuts fin N S foot L id) :
    ∀ k, CutsOk P E fc ro fid fin (fun i => mem i cuts) (L k) S := by
  intro k
  induction k with
  | zero =>
    intro p hp hc st r h
    obtain ⟨V, ft, slots, dec, enc, l, h1, h2, h3, hft, h4⟩ := hL p.1 (mem_of_mem.1 hc)
    rw [h2] at h
    intro _ b cs a w _ _ hb
    obtain ⟨v, hv, _⟩ := cut_ok hE h1 (fun j hj => footEq_right hft (hfoot j hj)) h hb
    rw [h3] at hv; cases hv
  | succ k ih =>
    intro p hp hc st r h
    obtain ⟨V, ft, slots, dec, enc, l, h1, h2, h3, hft, h4⟩ := hL p.1 (mem_of_mem.1 hc)
    rw [h2] at h
    intro hn b cs a w hrb hfn hb
    obtain ⟨v, hv, hb2⟩ := cut_ok hE h1 (fun j hj => footEq_right hft (hfoot j hj)) h hb
    have he := h4 k v r hv
    have ht : (lk S p.1).getD [] = p.2 := by rw [lk_nodup huniq p hp]; rfl
    rw [ht] at he
    exact evCut_ok hE hC hmix hnt hro hrd (fun e => hsite e p hp) (fun q hq => ih q (hsub p hp q hq)) he hn b cs a w hrb hfn hb2

/-! ### Marks at the end -/
theorem cell_under {w : World} {D : Nat} {o : Obj} (hD : w.heap[D]? = some (.deferred (some []))) (ho : ∀ A v, w.cell? A = some v → A.block ≠ D) (A : Addr) (v : Value) (h : w.cell? A = some v) : (w.putObj D o).cell? A = some v := by
  have := ho A v h
  unfold World.cell? at h ⊢
  rw [World.putObj_heap_other this]; exact h
theorem Rep.under {c : Cx G} {w' : World} (hs : c.w.heap.size ≤ w'.heap.size) (hcell : ∀ A v, c.w.cell? A = some v → w'.cell? A = some v) (hmap : ∀ (g : Nat) es clock, c.w.heap[g]? = some (.map es clock) → w'.heap[g]? = some (.map es clock)) {a : AV G} {v : Value} (h : Rep c a v) : Rep { c with w := w' } a v := by
  induction h with
  | rop b off cs vs hb ho hc hr ih => exact .rop b off cs vs (Nat.lt_of_lt_of_le hb hs) ho (fun j hj => hcell _ _ (hc j hj)) ih
  | ros e xs b off cap sz vs hsz hb ho hc hl hr hcap ih => exact .ros e xs b off cap sz vs hsz (Nat.lt_of_lt_of_le hb hs) ho (fun i hi j hj => hcell _ _ (hc i hi j hj)) hl ih hcap
  | agg cs vs hl hr ih => exact .agg cs vs hl ih
  | tup cs vs hl hr ih => exact .tup cs vs hl ih
  | fnv f cs ds us vs hl hr hl' hr' ih ih' => exact .fnv f cs ds us vs hl ih hl' ih'
  | rosn e xs A cap h ih => exact .rosn e xs A cap ih
  | any v => exact .any v
  | int k n => exact .int k n
  | bool b => exact .bool b
  | str s => exact .str s
  | flt n h => exact .flt n h
  | cpx m n h h' => exact .cpx m n h h'
  | nilptr => exact .nilptr
  | nilsl => exact .nilsl
  | nilfn => exact .nilfn
  | yld id h => exact .yld (c := { c with w := w' }) id h
  | ptr id off h => exact .ptr (c := { c with w := w' }) id off h
  | osl id A n cap h hs' => exact .osl (c := { c with w := w' }) id A n cap h hs'
  | optr id i sz off g n cap h hs' => exact .optr (c := { c with w := w' }) id i sz off g n cap h hs'
  | aptr id off len i h hi => exact .aptr (c := { c with w := w' }) id off len i h hi
  | oarr id i sz off len j g n cap h hj hs' => exact .oarr (c := { c with w := w' }) id i sz off len j g n cap h hj hs'
  | sub0 id sz lo A cap h => exact .sub0 id sz lo A cap h
  | sub id sz lo n g N cap cap' h hs' hn hc => exact .sub (c := { c with w := w' }) id sz lo n g N cap cap' h hs' hn hc
  | asl id off n cap h hc => exact .asl (c := { c with w := w' }) id off n cap h hc
  | ros0 e A cap h => exact .ros0 e A cap h
  | rosn0 e a cap => exact .rosn0 e a cap
  | mapv id h => exact .mapv (c := { c with w := w' }) id h
  | romap e xs b clock es hb ho hm hz hk vs hv hr ih => exact .romap (c := { c with w := w' }) e xs b clock es (Nat.lt_of_lt_of_le hb hs) ho (hmap _ _ _ hm) hz hk vs hv ih
theorem Reps.under {c : Cx G} {w' : World} (hs : c.w.heap.size ≤ w'.heap.size) (hcell : ∀ A v, c.w.cell? A = some v → w'.cell? A = some v) (hmap : ∀ (g : Nat) es clock, c.w.heap[g]? = some (.map es clock) → w'.heap[g]? = some (.map es clock)) {as : List (AV G)} {vs : List Value} (h : Reps c as vs) : Reps { c with w := w' } as vs := ⟨h.1, fun j hj => (h.2 j hj).under hs hcell hmap⟩
theorem Rel.take {bl : Nat → Nat} {sv : Nat → Value} {D : Nat} {ds : List Nat} (h : Rel P E fc bl sv st a w) (ha : a.defers = (D :: ds).map markOf) :
    w.heap[D]? = some (.deferred (some [])) ∧ Rel P E fc bl sv st { a with defers := ds.map markOf } (w.putObj D (.deferred none)) := by
  obtain ⟨ds', e1, nd, hd⟩ := h.marks
  have inj : ∀ x y, markOf x = markOf y → x = y := fun x y h => by unfold markOf at h; injection h with h1; injection h1
  obtain rfl := map_inj inj _ _ (ha.symm.trans e1)
  obtain ⟨h1, h2, h3⟩ := hd D (List.mem_cons_self ..)
  obtain ⟨hn, nd'⟩ := List.nodup_cons.1 nd
  have hcell : ∀ A v, w.cell? A = some v → (w.putObj D (.deferred none)).cell? A = some v := cell_under h1 fun A v hA e => by
    unfold World.cell? at hA
    rw [e, h1] at hA
    cases hA
  have hoth : ∀ g, g ≠ D → (w.putObj D (.deferred none)).heap[g]? = w.heap[g]? := fun g hg => World.putObj_heap_other hg
  have hmap : ∀ (g : Nat) es clock, w.heap[g]? = some (.map es clock) → (w.putObj D (.deferred none)).heap[g]? = some (.map es clock) := fun g es c hg => (hoth g fun e => by rw [e, h1] at hg; cases hg).trans hg
  have hown : ∀ id, owns st bl sv id D → False := fun id ho => h3 (.inl ⟨id, ho⟩)
  refine ⟨h1, ⟨?_, h.m.disj, h.m.os, h.m.tape, h.m.output, by rw [World.putObj_size]; exact h.m.grow, fun g hg hm => ?_, h.m.own, h.m.anch, h.m.drawn⟩, ⟨ds, rfl, nd', fun x hx => ?_⟩, h.size, fun d => ?_⟩
  · intro id b hb
    have hok := h.m.blks id b hb
    cases b with
    | fix t cs =>
      obtain ⟨vs, hv, hr⟩ := hok
      exact ⟨vs, (hoth _ fun e => hown id (by unfold owns; rw [hb]; exact e)).trans hv, hr.under (by simp [World.putObj, St.cx]) hcell hmap⟩
    | row e xs =>
      obtain ⟨sz, vs, hsz, hown', hr, hl⟩ := hok
      have hown2 : w.ownsRow 0 e sz (sv id) xs.length vs := hown'
      refine ⟨sz, vs, hsz, ?_, hr.under (by simp [World.putObj, St.cx]) hcell hmap, hl⟩
      show (w.putObj D (.deferred none)).ownsRow 0 e sz (sv id) xs.length vs
      refine ⟨hown2.1, ?_⟩
      rcases hown2.2 with k2 | ⟨g, cap, cur, hv, hg, hh, r⟩
      · exact .inl k2
      · exact .inr ⟨g, cap, cur, hv, hg, (hoth g fun e => hown id (by unfold owns; rw [hb]; simp [hv, Value.ownBlock, e])).trans hh, r⟩
    | lp key ls cs =>
      obtain ⟨vs, ps, as, bd, D0, hv, hsite, hr⟩ := hok
      exact ⟨vs, ps, as, bd, D0, (hoth _ fun e => hown id (by unfold owns; rw [hb]; exact e)).trans hv, hsite, hr.under (by simp [World.putObj, St.cx]) hcell hmap⟩
    | dead => trivial
    | mset ks =>
      obtain ⟨es, clock, hv, h4⟩ := hok
      exact ⟨es, clock, hmap _ _ _ hv, h4⟩
    | mrow e xs hole =>
      obtain ⟨es, clock, hv, hz, e3, e4, e5, e6, e7⟩ := hok
      refine ⟨es, clock, hmap _ _ _ hv, hz, fun j y hj => ?_, e4, e5, e6, e7⟩
      obtain ⟨en, g1, g2, g3⟩ := e3 j y hj
      refine ⟨en, g1, g2, fun hne => ?_⟩
      obtain ⟨g, sl, q, vs, sz, us, r1, r2, r3, r4, r5, r6, r7, r8, r9, r10⟩ := g3 hne
      have r5' : w.heap[g]? = some (.cells (vs ++ [sl]).toArray e (0, 0)) := r5
      have r8' : w.ownsRow 0 q.e sz sl q.ts.length us := r8
      refine ⟨g, sl, q, vs, sz, us, r1, r2, r3, r4, (hoth g fun e => by rw [e, h1] at r5'; cases r5').trans r5', r6.under (by simp [World.putObj, St.cx]) hcell hmap, r7, ?_, r9.under (by simp [World.putObj, St.cx]) hcell hmap, r10⟩
      show (w.putObj D (.deferred none)).ownsRow 0 q.e sz sl q.ts.length us
      refine ⟨r8'.1, ?_⟩
      rcases r8'.2 with k2 | ⟨g2, cap, cur, hv2, hg2, hh2, r⟩
      · exact .inl k2
      · exact .inr ⟨g2, cap, cur, hv2, hg2, (hoth g2 fun e => by rw [e, h1] at hh2; cases hh2).trans hh2, r⟩
  · exact (hoth g fun e => by omega).trans (h.m.frame g hg hm)
  · obtain ⟨x1, x2, x3⟩ := hd x (List.mem_cons_of_mem _ hx)
    exact ⟨(hoth x fun e => hn (e ▸ hx)).trans x1, x2, x3⟩
  · exact (h.tmps d).under (by simp [World.putObj, St.cx]) hcell hmap
/-- A frame on its way out takes all marks. -/
theorem take_all {b : Frame} {cs : List Frame} {todo : List Item} {bl : Nat → Nat} {sv : Nat → Value} : ∀ (ds : List Nat) (a : Act) (w : World), Rel P E fc bl sv st a w → a.defers = ds.map markOf →
    ∃ w', Rel P E fc bl sv st { a with defers := [] } w' ∧ Steps P (lone { b.atR a todo with mode := .returning } cs w) (lone { b.atR { a with defers := [] } todo with mode := .returning } cs w') := by
  intro ds
  induction ds with
  | nil =>
    intro a w h ha
    have : a = { a with defers := [] } := by cases a; simp only [List.map_nil] at ha; subst ha; rfl
    rw [← this]
    exact ⟨w, h, Steps.refl _ _⟩
  | cons D ds ih =>
    intro a w h ha
    obtain ⟨h1, h2⟩ := h.take ha
    obtain ⟨w', r, s⟩ := ih _ _ h2 rfl
    refine ⟨w', r, .head (step_collected (fr := { b.atR a todo with mode := .returning }) (d := markOf D) (r := D) (ds := ds.map markOf) (by simp) ha rfl (run_takeDeferred h1)) s⟩

/-! ### Results -/
def resF (tmps : Array Value) : ResultVar → Sem Value
  | .tmp t => pure (tmps.getD t undef)
  | .cell x t => do loadVar t (← asAddr (tmps.getD x undef))
theorem res_ok {bl : Nat → Nat} {sv : Nat → Value} (hR : Rel P E fc bl sv st a w) : ∀ (rs : List ResultVar) (vs : List (AV G)) (l : List Nat), (resQ P E rs st).trace st.blk = some (vs, l) →
    ∃ vals, (rs.mapM (resF a.tmps)).run P w = .ok vals w ∧ Reps (st.cx P E fc bl sv w) vs vals := by
  intro rs
  induction rs with
  | nil => intro vs l h; obtain rfl := ret_inv h; exact ⟨[], by simp, Reps.nil _⟩
  | cons x rs ih =>
    intro vs l h
    cases x with
    | tmp t =>
      obtain ⟨vs', l1, l2, h1, h2⟩ := bind_inv h
      obtain rfl := ret_inv h2
      obtain ⟨vals, h3, h4⟩ := ih _ _ h1
      refine ⟨a.tmps.getD t undef :: vals, ?_, Reps.cons (hR.tmps t) h4⟩
      simp only [List.mapM_cons, resF, Sem.run_bind, Sem.run_pure, Result.andThen_ok, h3]
    | cell y t =>
      obtain ⟨e, l1, l2, h1, h2⟩ := bind_inv h
      obtain ⟨vs', l3, l4, h3, h4⟩ := bind_inv h2
      obtain rfl := ret_inv h4
      obtain ⟨vals, h5, h6⟩ := ih _ _ h3
      obtain ⟨v, h7, h8, _, h9⟩ := load_pure hR (hR.tmps y) h1
      refine ⟨v :: vals, ?_, Reps.cons h9 h6⟩
      simp only [Instr.loadAt, Sem.run_bind] at h7
      simp only [List.mapM_cons, resF, Sem.run_bind, Sem.run_pure, h8, h7, Result.andThen_ok, h5]

theorem args_reps {c : Cx G} {as : List (AV G)} {vals : List Value} (h : Reps c as vals) (n d : Nat) (x : AV G) (hx : lk (zipS (List.range as.length) as) d = some x) : Rep c x ((vals.toArray ++ Array.replicate n undef).getD d undef) := by
  have hl : (List.range as.length).map (fun d => vals.getD d undef) = vals := by
    rw [← h.1]
    apply List.ext_getElem?
    intro j
    by_cases hj : j < vals.length
    · simp [hj, List.getD]
    · simp [hj]
  have h1 := lk_zipS (c := c) (fun d => vals.getD d undef) (List.range as.length) as (by rw [hl]; exact h) d x hx
  have hd : d < as.length := by
    have : ∀ (ds : List Nat) (as : List (AV G)), lk (zipS ds as) d = some x → d ∈ ds := by
      intro ds
      induction ds with
      | nil => intro as h; cases as <;> simp [zipS, lk] at h
      | cons k ds ih =>
        intro as h
        cases as with
        | nil => simp [zipS, lk] at h
        | cons b as =>
          simp only [zipS, lk_cons] at h
          split at h
          · rename_i hh; subst hh; exact List.mem_cons_self ..
          · exact List.mem_cons_of_mem _ (ih as h)
    exact List.mem_range.1 (this _ _ hx)
  have e : (vals.toArray ++ Array.replicate n undef).getD d undef = vals.getD d undef := by
    have hd' : d < vals.length := by rw [h.1]; exact hd
    rw [Array.getD_eq_getD_getElem?, Array.getElem?_append_left (by simpa using hd')]
    simp [List.getD]
  rw [e]; exact h1

theorem MRel.anew {bl : Nat → Nat} {sv : Nat → Value} (m : MRel P E fc bl sv st w) (nt : Nat) (an : Nat → Prop) (bl0 : Nat → Nat) (sv0 : Nat → Value) (h : ∀ id, an id → (st.blk id).isSome = true ∧ bl id = bl0 id ∧ sv id = sv0 id) :
    MRel P E { fc with nt, an, bl0, sv0 } bl sv st w := ⟨m.blks, m.disj, m.os, m.tape, m.output, m.grow, m.frame, m.own, h, m.drawn⟩
def resV : List Value → Value
  | [v] => v
  | vs => .tuple vs.toArray
theorem results_run {fn : Func} {tmps : Array Value} {vals : List Value}
    (h : (fn.results.toList.mapM (resF tmps)).run P w = .ok vals w) :
    (results fn tmps).run P w = .ok (resV vals) w := by
  have e : results fn tmps = (do let vs ← fn.results.mapM (resF tmps); pure (if h : vs.size = 1 then vs[0] else .tuple vs)) := by
    unfold results
    rfl
  rw [e, Array.mapM_eq_mapM_toList]
  simp only [map_eq_pure_bind, Sem.run_bind, Sem.run_pure, h, Result.andThen_ok]
  congr 1
  clear h
  match vals with
  | [] => rfl
  | [v] => rfl
  | _ :: _ :: _ => rfl
theorem tell_trace {R V : Type} {ps foot : List Pat} {dec : List (AV G) → List (Nat × Blk G) → Option V} {K : V → Option R} {q : Q G (List (AV G))} {h : Nat → Option (Blk G)} {r : R} (hh : tellK P ps foot dec K q h = some r) : ∃ vs l, q.trace h = some (vs, l) := by
  unfold tellK at hh
  rw [Q.run_eq] at hh
  obtain ⟨⟨as, l⟩, htr, _⟩ := Option.bind_eq_some_iff.1 hh
  obtain ⟨vs, l1, l2, h1, _⟩ := bind_inv htr
  exact ⟨vs, l1, h1⟩
theorem resAV_ok {c : Cx G} {as : List (AV G)} {vals : List Value} (h : Reps c as vals) : Rep c (resAV as) (resV vals) := by
  match as, vals, h with
  | [], [], h => exact .tup [] [] rfl fun j hj => by simp at hj
  | [a], [v], h => exact h.2 0 (Nat.zero_lt_one)
  | a :: b :: r, v :: u :: s, h => exact .tup _ _ h.1 h.2
  | [], _ :: _, h => simp [Reps] at h
  | _ :: _, [], h => simp [Reps] at h
  | [_], _ :: _ :: _, h => simp [Reps] at h
  | _ :: _ :: _, [_], h => simp [Reps] at h

/-- A function whose code comes to what 'f' tells. -/
theorem fn_ok {g : FuncId} {fn : Func} {c : Code} (hfn : P.funcs[g]? = some fn) (hname : (fn.name == "runtime.NumGoroutine") = false) (hbody : fn.body = some c) (hE : EnvOk P E) (hC : OracleOk P E C) (hmix : P.follows .mixedOrders = true)
    {V W : Type} {encV : V → List (AV G) × List (Nat × Blk G)} {f : V → Option W} {encW : W → List (AV G) × List (Nat × Blk G)} {foot : List Pat} {fin : Option Code → St G → Option W} {cuts : List Nat} {N : Nat} {L : Nat → Nat → St G → Option W}
    (hdecW : ∀ j st r, fin j st = some r → (j = none ∨ j = some .ret) ∧ ∃ ft psW decW, footEq ft foot = true ∧ finK P E fn.results.toList psW ft decW st = some r ∧ ∀ as hp v, decW as hp = some v → encW v = (as, hp)) (huniq : nodupB ((cutsC c []).map (·.1)) = true)
    (hL : ∀ id ∈ cuts, CutOk P E C false g fn.ntmps cuts fin N (cutsC c []) foot L id)
    (hN : ∀ v r, f v = some r → ∃ k, ev P E C fn.ntmps (fun i => mem i cuts) (L k) fin N [.code c] (argSt (encV v)) = some r)
    (hargs : ∀ v, (encV v).1.length ≤ fn.ntmps) (hfoot : ∀ v, ∀ p ∈ foot, (lk (encV v).2 (footN p)).isSome = true)
    (hout : ∀ v r j, (lk (encV v).2 j).isSome = true → (lk (encW r).2 j).isSome = true → ∃ p ∈ foot, footN p = j) : FnOk P E g encV f encW := by
  intro v r hv fc bl sv w vals hw han m hr hlt
  let fc2 : FC := { fc with nt := fn.ntmps, an := fun j => ∃ p ∈ foot, footN p = j, bl0 := bl, sv0 := sv }
  have m2 : MRel P E fc2 bl sv (hst (encV v).2) w := m.anew fn.ntmps _ bl sv (by
    rintro id ⟨p, hp, rfl⟩
    exact ⟨hfoot v p hp, rfl, rfl⟩)
  obtain ⟨k, hk⟩ := hN v r hv
  have hcuts := cuts_ok (fc := fc2) (ro := none) (fid := g) (rd := false) hE hC hmix rfl (fun l e => by cases e) (fun _ => rfl) (fun j h => h) huniq (fun p hp q hq => by
    rcases todo_sub c [] p hp q hq with h | h
    · exact h
    · simp [cutsT] at h) (fun _ p hp f' ps as bd k' h hlt => by
    have h1 := cut_head c [] p hp f' ps as bd k' h
    unfold siteOf
    have e1 := (key_div g (keyOf as bd) hlt).1
    have e2 := (key_div g (keyOf as bd) hlt).2
    rw [e1, e2]
    simp only [hfn, hbody]
    have ht : todoAt c (keyOf as bd) = p.2 := by unfold todoAt; rw [← h1, lk_nodup huniq p hp]; rfl
    rw [ht, h]) hL k
  have hgood := ev_ok (fc := fc2) (ro := none) (fid := g) hE hC hmix rfl (fun l e => by cases e) N [.code c] (argSt (encV v)) r (fun p hp => hcuts p (by simpa [cutsT] using hp)) hk
  refine .inl ⟨fn, hfn, hname, by rw [hbody]; rfl, fun cs => ?_⟩
  have hlen : vals.length = (encV v).1.length := hr.1
  let b : Frame := { (default : Frame) with fn := g, kind := .normal }
  have henter : Frame.enter P g vals.toArray .normal = b.atR { tmps := vals.toArray ++ Array.replicate (fn.ntmps - vals.toArray.size) undef, defers := [] } [.code c] := by
    simp [Frame.enter, Frame.atR, hfn, hbody, b]
    rfl
  obtain ⟨a', w', st', todo, j, hfin, hends, ⟨_, bl2, sv2, hR2⟩, hsteps⟩ := hgood (fun _ => rfl) b cs { tmps := vals.toArray ++ Array.replicate (fn.ntmps - vals.toArray.size) undef, defers := [] } w rfl rfl (by
    refine ⟨fun id hid => ?_, bl, sv, MRel.congr (s := hst (encV v).2) (t := argSt (encV v)) (fun _ => rfl) m2, ⟨[], rfl, List.nodup_nil, fun D hD => by cases hD⟩, ?_, fun d => ?_⟩
    · show lk (encV v).2 id = none
      cases hh : lk (encV v).2 id with
      | none => rfl
      | some b => have := hlt id (by rw [hh]; rfl); have hid' : stride ≤ id := hid; omega
    · have := hargs v
      simp only [Array.size_append, List.size_toArray, Array.size_replicate]
      show _ = fn.ntmps
      omega
    · unfold St.get
      cases hh : lk (argSt (encV v)).tmps d with
      | none => exact .any _
      | some x => exact args_reps (c := (argSt (encV v)).cx P E fc2 bl sv w) hr _ d x hh)
  obtain ⟨hj, ft, psW, decW, hfe, hfin, hdecW⟩ := hdecW _ _ _ hfin
  have hret : step P (lone (b.atR a' todo) cs w') = .next (lone { b.atR a' todo with mode := .returning } cs w') := by
    rcases hj with rfl | rfl
    · have : todo = [] := hends
      subst this; exact stepR_end rfl
    · obtain ⟨k', rfl⟩ := hends
      exact stepR_ret rfl
  obtain ⟨ds, hds, _⟩ := hR2.marks
  obtain ⟨w2, hR3, hst2⟩ := take_all (b := b) (cs := cs) (todo := todo) ds a' w' hR2 hds
  obtain ⟨vs, l, htr⟩ := tell_trace hfin
  obtain ⟨vals', hrun, hreps⟩ := res_ok hR3 _ _ _ htr
  obtain ⟨r', bl3, sv3, hr', _, hft, hm⟩ := tell_ok (vals := vals') hE hR3.m (by
    intro vs' l' h'
    rw [htr] at h'
    simp only [Option.some.injEq, Prod.mk.injEq] at h'
    rw [← h'.1]; exact hreps) hdecW (fun j h => footEq_right hfe h) hfin
  obtain rfl := Option.some.inj hr'
  obtain ⟨m3, r3, _⟩ := hm (hst (encW r').2) rfl
  refine ⟨.returned _, w2, { b.atR { a' with defers := [] } todo with mode := .returning }, ⟨_, rfl, bl3, sv3, m3.anew fc.nt fc.an fc.bl0 fc.sv0 ?_, resAV_ok r3, ?_⟩, ?_, rfl, rfl, rfl, rfl, fn, hfn, results_run hrun⟩
  · exact fun id h => (han id h).elim
  · intro j h1 h2
    obtain ⟨p0, hp0, rfl⟩ := hout v r' j h1 h2
    obtain ⟨p, hp, he⟩ := footEq_right hfe ⟨p0, hp0, rfl⟩
    rw [← he]
    have h3 := hft p hp
    have h4 := hR3.m.anch (footN p) ⟨p0, hp0, he.symm⟩
    exact ⟨h3.1.trans h4.2.1, h3.2.trans h4.2.2⟩
  · rw [henter]; exact Steps.trans hsteps (.head hret hst2)
/-! ### Rounds -/
theorem setAll_len {α : Type} : ∀ (ts : List Nat) (as cs : List α), (setAll ts as cs).length = cs.length := by
  intro ts
  induction ts with
  | nil => intro as cs; cases as <;> rfl
  | cons t ts ih => intro as cs; cases as with
    | nil => rfl
    | cons a as => simp only [setAll, ih, List.length_set]
theorem setAll_reps {c : Cx G} : ∀ (ts : List Nat) (as : List (AV G)) (us : List Value) (cs : List (AV G)) (vs : List Value), Reps c as us → Reps c cs vs → Reps c (setAll ts as cs) (setAll ts us vs) := by
  intro ts
  induction ts with
  | nil => intro as us cs vs _ h; cases as <;> cases us <;> exact h
  | cons t ts ih =>
    intro as us cs vs ha h
    cases as with
    | nil => obtain rfl := ha.nil_inv; exact h
    | cons a as =>
      obtain ⟨u, us', rfl, h1, h2⟩ := ha.cons_inv
      refine ih _ _ _ _ h2 ⟨by simp [h.1], fun j hj => ?_⟩
      have hj' : j < cs.length := by simpa using hj
      by_cases e : t = j
      · subst e
        have hv : t < vs.length := by rw [h.1]; exact hj'
        simp only [List.getElem_set_self, List.getD_eq_getElem?_getD, List.getElem?_set_self hv, Option.getD_some]
        exact h1
      · simp only [List.getElem_set_ne e, List.getD_eq_getElem?_getD, List.getElem?_set_ne e]
        have := h.2 j hj'
        rwa [List.getD_eq_getElem?_getD] at this
theorem setAll_fold : ∀ (ts : List Nat) (us vs : List Value), (ts.zip us).foldl (fun (tmps : Array Value) (p : Nat × Value) => tmps.setIfInBounds p.1 p.2) vs.toArray = (setAll ts us vs).toArray := by
  intro ts
  induction ts with
  | nil => intro us vs; cases us <;> rfl
  | cons t ts ih => intro us vs; cases us with
    | nil => rfl
    | cons u us =>
      simp only [List.zip_cons_cons, List.foldl_cons, setAll]
      rw [← ih]
      congr 1
      simp
def endsW (j : Option Code) : Prop := j = none ∨ ∃ c, j = some c ∧ isJmp c = true
theorem round_end {b : Frame} {l : Nat} (hb : b.roundOf = some l) (hk : b.kind = .normal) {c : Frame} {cs : List Frame} {a : Act} {w w' : World} {todo : List Item} {j : Option Code} (he : Ends j todo) {v : Value} (hr : (Instr.endRound l j).run P w = .ok v w') :
    step P (lone (b.atR a todo) (c :: cs) w) = .next (lone (c.finish v) cs w') := by
  cases j with
  | none => have : todo = [] := he; subst this; exact stepR_round_end hb hk hr
  | some x =>
    cases x with
    | ret => obtain ⟨k, rfl⟩ := he; exact stepR_round_ret hb hk hr
    | exit id => obtain ⟨k, rfl, hx⟩ := he; exact stepR_round_exit hb hk hx hr
    | goto t => obtain ⟨k, rfl, hx⟩ := he; exact stepR_round_goto hb hk hx hr
    | _ => exact he.elim
def cutsR (as bd : Code) : List (Nat × List Item) := cutsC as [.beginRound, .code bd] ++ cutsC bd []
/-- A loop over a function, by its function's text. -/
theorem site_of {g : FuncId} {fn : Func} {c : Code} {key : Nat} {ps : Array Tmp} {as bd : Code} (hfn : P.funcs[g]? = some fn) (hb : fn.body = some c) (hk : key / 1024 = g)
    (ht : (match todoAt c (key % 1024) with | .code (.rangeFunc _ ps as bd) :: _ => some (ps, as, bd) | _ => none) = some (ps, as, bd)) : siteOf P key = some (ps, as, bd) := by
  unfold siteOf
  rw [hk, hfn]
  simp only [hb]
  exact ht
/-- A loop's round, whose code comes to what 'f' tells. -/
theorem round_ok {key : Nat} {ps : Array Tmp} {as bd : Code} (hsite : siteOf P key = some (ps, as, bd)) (hE : EnvOk P E) (hC : OracleOk P E C) (hmix : P.follows .mixedOrders = true) {nt : Nat}
    {V W : Type} {encV : V → List (AV G) × List (Nat × Blk G)} {f : V → Option W} {encW : W → List (AV G) × List (Nat × Blk G)} {foot : List Pat} {fin : Option Code → St G → Option W} {cuts : List Nat} {N : Nat} {L : Nat → Nat → St G → Option W}
    (hdecW : ∀ j st r, fin j st = some r → ∃ key cs ft psW decW, footEq ft foot = true ∧ st.blk 0 = some (.lp key .busy cs) ∧ tellK P psW ft decW some (.ret [.bool j.isNone]) ({ st with heap := (0, .lp key (endLS j) cs) :: st.heap } : St G).blk = some r ∧ ∀ as hp v, decW as hp = some v → encW v = (as, hp)) (huniq : nodupB ((cutsR as bd).map (·.1)) = true)
    (hL : ∀ id ∈ cuts, CutOk P E C true (key / 1024) nt cuts fin N (cutsR as bd) foot L id)
    (hN : ∀ v r, f v = some r → ∃ k, ev P E C nt (fun i => mem i cuts) (L k) fin N [.code as, .beginRound, .code bd] (rndSt ps.toList (encV v)) = some r)
    (hargs : ∀ v, ∃ args cs ls, (encV v).1 = .yld 0 :: args ∧ args.length = ps.size ∧ lk (encV v).2 0 = some (.lp key ls cs) ∧ cs.length = nt) (hzero : ∃ p ∈ foot, footN p = 0) (hfoot : ∀ v, ∀ p ∈ foot, (lk (encV v).2 (footN p)).isSome = true)
    (hout : ∀ v r j, (lk (encV v).2 j).isSome = true → (lk (encW r).2 j).isSome = true → ∃ p ∈ foot, footN p = j) : CalOk P E (.yl key) encV f encW := by
  intro v r hv fc bl sv w vals hw han m hr hlt
  obtain ⟨args, cs, ls, hea, hal, hlp, hcs⟩ := hargs v
  let fc2 : FC := { fc with nt := nt, an := fun j => ∃ p ∈ foot, footN p = j, bl0 := bl, sv0 := sv }
  have m2 : MRel P E fc2 bl sv (hst (encV v).2) w := m.anew nt _ bl sv (by
    rintro id ⟨p, hp, rfl⟩
    exact ⟨hfoot v p hp, rfl, rfl⟩)
  obtain ⟨vs, ps', as', bd', D, hrec, hsite', hrs⟩ := lp_inv m2 (id := 0) hlp
  rw [hsite] at hsite'
  obtain ⟨rfl, rfl, rfl⟩ : ps = ps' ∧ as = as' ∧ bd = bd' := by
    simp only [Option.some.injEq, Prod.mk.injEq] at hsite'
    exact hsite'
  rw [hea] at hr
  obtain ⟨y, us, hvals, hy, hus⟩ := hr.cons_inv
  have hyv : y = .func (.yield (bl 0)) #[] #[] := by cases hy; rfl
  subst hyv
  have hul : us.length = ps.size := hus.1.trans hal
  refine ⟨bl 0, us, key / 1024, (setAll ps.toList us vs).toArray, as, bd, hvals, ?_, fun ro n => ⟨trivial, fun c cs' _ => ?_⟩⟩
  · have := run_yield (P := P) (args := us.toArray) hrec (by simpa [loopRec] using hul)
    rw [this]
    simp only [loopRec]
    congr 2
    rw [← setAll_fold]
    rw [← Array.foldl_toList]
    simp
  · obtain ⟨k, hk⟩ := hN v r hv
    have hro : ROk fc2 (some (bl 0)) := fun l e => by cases e; exact ⟨hzero, rfl⟩
    have hcuts := cuts_ok (fc := fc2) (ro := some (bl 0)) (fid := key / 1024) (rd := true) hE hC hmix rfl hro (fun e => by cases e) (fun j h => h) huniq (fun p hp q hq => by
      unfold cutsR at hp ⊢
      rcases List.mem_append.1 hp with hp | hp
      · rcases todo_sub as _ p hp q hq with h | h
        · exact List.mem_append.2 (.inl h)
        · simp only [cutsT, List.append_nil] at h
          exact List.mem_append.2 (.inr h)
      · rcases todo_sub bd [] p hp q hq with h | h
        · exact List.mem_append.2 (.inr h)
        · simp [cutsT] at h) (fun e => by cases e) hL k
    have hgood := ev_ok (fc := fc2) (ro := some (bl 0)) (fid := key / 1024) hE hC hmix rfl hro N [.code as, .beginRound, .code bd] (rndSt ps.toList (encV v)) r (fun p hp => hcuts p (by
      unfold cutsR
      simp only [cutsT, List.append_nil] at hp
      exact hp)) hk
    let b : Frame := { (default : Frame) with fn := key / 1024, kind := .normal, roundOf := some (bl 0) }
    have henter : Frame.round (bl 0) (key / 1024) (setAll ps.toList us vs).toArray as bd .normal = b.atR { tmps := (setAll ps.toList us vs).toArray, defers := [] } [.code as, .beginRound, .code bd] := by
      simp [Frame.round, Frame.atR, b]
    have hst : rndSt ps.toList (encV v) = { tmps := zipS (List.range cs.length) (setAll ps.toList args cs), heap := (encV v).2, next := stride } := by
      unfold rndSt
      rw [hlp, hea]; rfl
    have hset := setAll_reps ps.toList args us cs vs hus hrs
    obtain ⟨a', w', st', todo, j, hfin, hends, ⟨_, bl2, sv2, hR2⟩, hsteps⟩ := hgood (fun e => by cases e) b (c :: cs') { tmps := (setAll ps.toList us vs).toArray, defers := [] } w rfl rfl (by
      rw [hst]
      refine ⟨fun id hid => ?_, bl, sv, MRel.congr (s := Ev.hst (encV v).2) (fun _ => rfl) m2, ⟨[], rfl, List.nodup_nil, fun D hD => by cases hD⟩, ?_, fun d => ?_⟩
      · show lk (encV v).2 id = none
        cases hh : lk (encV v).2 id with
        | none => rfl
        | some b => have := hlt id (by rw [hh]; rfl); have hid' : stride ≤ id := hid; omega
      · show (setAll ps.toList us vs).toArray.size = nt
        rw [List.size_toArray, setAll_len, ← hcs, ← hrs.1]
      · unfold St.get
        cases hh : lk (zipS (List.range cs.length) (setAll ps.toList args cs)) d with
        | none => exact .any _
        | some x =>
          refine lk_zipS (fun d => (setAll ps.toList us vs).toArray.getD d undef) (List.range cs.length) (setAll ps.toList args cs) ?_ d x hh
          have e : (List.range cs.length).map (fun d => (setAll ps.toList us vs).toArray.getD d undef) = setAll ps.toList us vs := by
            have hl : cs.length = (setAll ps.toList us vs).length := by rw [setAll_len, hrs.1]
            rw [hl]
            apply List.ext_getElem?
            intro i
            by_cases hi : i < (setAll ps.toList us vs).length
            · simp [hi]
            · simp [hi]
          rw [e]; exact hset)
    obtain ⟨key2, cs2, ft, psW, decW, hfe, hid2, htell, hdecW⟩ := hdecW _ _ _ hfin
    obtain ⟨vs2, ps2, as2, bd2, D2, hrec2, hs2, hr2⟩ := lp_inv hR2.m hid2
    obtain ⟨m3, k3⟩ := set_lp (ls' := endLS j) hR2.m hid2 hrec2 hs2 hr2
    have hbl0 : bl2 0 = bl 0 := (hR2.m.anch 0 hzero).2.1
    have hend : (Instr.endRound (bl 0) j).run P w' = .ok (.bool j.isNone) (w'.putObj (bl2 0) (.loop (loopRec key2 (endLS j) vs2 ps2 as2 bd2 D2))) := by
      rw [hbl0] at hrec2
      rw [run_endRound j hrec2, hbl0]
      cases j <;> rfl
    have hlast := round_end (P := P) (b := b) (l := bl 0) rfl rfl (c := c) (cs := cs') (a := a') hends hend
    obtain ⟨r', bl3, sv3, hr', _, hft, hm⟩ := tell_ok (st := St.upd st' [(0, .lp key2 (endLS j) cs2)]) (vals := [.bool j.isNone]) hE m3 (by
      intro vs' l' h'
      obtain rfl := ret_inv h'
      exact Reps.cons (.bool _) (Reps.nil _)) hdecW (fun j h => footEq_right hfe h) htell
    obtain rfl := Option.some.inj hr'
    obtain ⟨m4, r4, _⟩ := hm (Ev.hst (encW r').2) rfl
    refine ⟨.returned (.bool j.isNone), _, ⟨_, rfl, bl3, sv3, m4.anew fc.nt fc.an fc.bl0 fc.sv0 (fun id h => (han id h).elim), resAV_ok r4, ?_⟩, ?_⟩
    · intro j' h1 h2
      obtain ⟨p0, hp0, rfl⟩ := hout v r' j' h1 h2
      obtain ⟨p, hp, he⟩ := footEq_right hfe ⟨p0, hp0, rfl⟩
      rw [← he]
      have h3 := hft p hp
      have h4 := hR2.m.anch (footN p) ⟨p0, hp0, he.symm⟩
      exact ⟨h3.1.trans h4.2.1, h3.2.trans h4.2.2⟩
    · rw [henter]
      exact stepsWF.2 (Steps.trans hsteps (.one hlast))
end
end Go.Proofs.Ytemdppcnhlnicaa.Ev
