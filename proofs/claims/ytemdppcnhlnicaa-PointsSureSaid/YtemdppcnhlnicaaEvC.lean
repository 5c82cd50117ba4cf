/- Each operation does what the evaluator tells: the operations that only compute. -/
import Derived.Test.YtemdppcnhlnicaaEvB
import Derived.CallsIn
import Derived.OrdersIn
import Derived.RangeFuncIn
import Derived.RangeFuncRecord
import Derived.RangeFuncLeaves
set_option linter.unusedVariables false
set_option linter.unusedSimpArgs false
namespace Go.Proofs.Ytemdppcnhlnicaa.Ev
open Go Go.RowKit
variable {G : Nat → Type}

/-! ### What was asked of memory -/
def Q.trace {α : Type} : Q G α → (Nat → Option (Blk G)) → Option (α × List Nat)
  | .ret a, _ => some (a, [])
  | .fail, _ => none
  | .ask id k, h => ((k (h id)).trace h).map fun p => (p.1, p.2 ++ [id])
  | .opt _ o k, h => o.bind fun x => (k x).trace h
  | .alt _ _ o k1 k2, h => match o with | .inl x => (k1 x).trace h | .inr x => (k2 x).trace h
theorem Q.run_eq {α R : Type} (q : Q G α) (h : Nat → Option (Blk G)) (K : α → List Nat → Option R) : ∀ l, q.run h l K = (q.trace h).bind fun p => K p.1 (p.2 ++ l) := by
  induction q with
  | ret a => intro l; simp [Q.run, Q.trace]
  | fail => intro l; rfl
  | ask id k ih => intro l; simp only [Q.run, Q.trace, ih, Option.bind_map]; congr 1; funext p; simp
  | opt β o k ih => intro l; simp only [Q.run, Q.trace, Option.bind_assoc]; congr 1; funext x; exact ih x l
  | alt β γ o k1 k2 ih1 ih2 => intro l; cases o with | inl x => exact ih1 x l | inr x => exact ih2 x l
theorem Q.trace_local {α : Type} (q : Q G α) (h h' : Nat → Option (Blk G)) : ∀ a l, q.trace h = some (a, l) → (∀ id ∈ l, h' id = h id) → q.trace h' = some (a, l) := by
  induction q with
  | ret a => intro b l e _; exact e
  | fail => intro b l e _; cases e
  | ask id k ih =>
    intro b l e hl
    simp only [Q.trace, Option.map_eq_some_iff, Prod.mk.injEq] at e ⊢
    obtain ⟨⟨b', l'⟩, e1, rfl, rfl⟩ := e
    have hid := hl id (by simp)
    rw [hid]
    exact ⟨(b', l'), ih _ _ _ e1 fun i hi => hl i (by simp [hi]), rfl, rfl⟩
  | opt β o k ih =>
    intro b l e hl
    simp only [Q.trace, Option.bind_eq_some_iff] at e ⊢
    obtain ⟨x, hx, e⟩ := e
    exact ⟨x, hx, ih x _ _ e hl⟩
  | alt β γ o k1 k2 ih1 ih2 =>
    intro b l e hl
    cases o with
    | inl x => exact ih1 x _ _ e hl
    | inr x => exact ih2 x _ _ e hl
theorem Q.trace_bind {α β : Type} (q : Q G α) (f : α → Q G β) (h : Nat → Option (Blk G)) : (q.bind f).trace h = (q.trace h).bind fun p => ((f p.1).trace h).map fun r => (r.1, r.2 ++ p.2) := by
  induction q with
  | ret a => simp [Q.bind, Q.trace]
  | fail => rfl
  | ask id k ih => simp only [Q.bind, Q.trace, ih, Option.map_bind, Option.bind_map]; congr 1; funext p; simp [Function.comp_def]
  | opt γ o k ih => simp only [Q.bind, Q.trace, Option.bind_assoc, ih]
  | alt γ δ o k1 k2 ih1 ih2 => cases o with | inl x => exact ih1 x | inr x => exact ih2 x

/-! ### Slots -/
theorem lk_cons {β : Type} (a : Nat) (b : β) (r : List (Nat × β)) (x : Nat) : lk ((a, b) :: r) x = if a = x then some b else lk r x := by
  by_cases h : a = x
  · subst h; simp [lk]
  · have : Nat.beq a x = false := by
      cases hh : Nat.beq a x
      · rfl
      · exact absurd (Nat.eq_of_beq_eq_true hh) h
    simp [lk, this, h]
theorem lk_ins {β : Type} (u h : List (Nat × β)) (x : Nat) : lk (ins u h) x = (lk u x).or (lk h x) := by
  induction u with
  | nil => simp [ins, lk]
  | cons p u ih =>
    obtain ⟨a, b⟩ := p
    simp only [ins, lk_cons, ih]
    split <;> simp

theorem St.upd_nil (st : St G) : st.upd [] = st := rfl
theorem St.upd_blk (st : St G) (u : List (Nat × Blk G)) (id : Nat) : (st.upd u).blk id = (lk u id).or (st.blk id) := lk_ins u st.heap id
theorem St.app_blk (st : St G) (d : Option Nat) (e : Eff G) (id : Nat) : (st.app d e).blk id = (st.upd e.upd).blk id := rfl
theorem St.put_blk (st : St G) (d : Option Nat) (v : AV G) (id : Nat) : (st.put d v).blk id = st.blk id := by cases d <;> rfl
theorem St.get_put (st : St G) (d : Nat) (v : AV G) (x : Nat) : (st.put (some d) v).get x = if d = x then v else st.get x := by
  simp only [St.put, St.get, lk_cons]
  split <;> simp

theorem cx_congr {P : Program} {E : Env G} {fc : FC} {bl : Nat → Nat} {sv : Nat → Value} {w : World} {s t : St G} (h : ∀ id, s.blk id = t.blk id) : s.cx P E fc bl sv w = t.cx P E fc bl sv w := by
  have e : s.blk = t.blk := funext h
  unfold St.cx owns
  rw [e]
theorem MRel.congr {P : Program} {E : Env G} {fc : FC} {bl : Nat → Nat} {sv : Nat → Value} {w : World} {s t : St G} (h : ∀ id, s.blk id = t.blk id) (m : MRel P E fc bl sv s w) : MRel P E fc bl sv t w := by
  have ho : owns s = owns t := by unfold owns; rw [show s.blk = t.blk from funext h]
  have hc := cx_congr (P := P) (E := E) (fc := fc) (bl := bl) (sv := sv) (w := w) h
  exact ⟨fun id b hb => hc ▸ m.blks id b ((h id).trans hb), ho ▸ m.disj, m.os, m.tape, m.output, m.grow, m.frame, ho ▸ m.own, fun id ha => (h id) ▸ m.anch id ha, m.drawn⟩

theorem Rep.ofV {c : Cx G} : ∀ (d : Nat) (v : Value), Rep c (AV.ofV d v) v := by
  intro d
  induction d with
  | zero => intro v; exact .any v
  | succ d ih =>
    intro v
    unfold AV.ofV
    split
    · exact .int _ _
    · exact .bool _
    · exact .str _
    · rename_i b
      cases hb : fint b with
      | none => exact .any _
      | some n =>
        show Rep c (.flt n) _
        rw [fint_ok hb]; exact .flt n (fint_flOk hb)
    · rename_i b b'
      cases hb : fint b with
      | none => exact .any _
      | some m =>
        cases hb' : fint b' with
        | none => exact .any _
        | some n =>
          show Rep c (.cpx m n) _
          rw [fint_ok hb, fint_ok hb']; exact .cpx m n (fint_flOk hb) (fint_flOk hb')
    · exact .nilptr
    · exact .nilsl
    · exact .nilfn
    · rename_i cs
      have := Rep.agg (c := c) (cs.toList.map (AV.ofV d)) cs.toList (by simp) (fun j hj => by
        have hj' : j < cs.size := by simpa using hj
        simpa [hj', List.getD, Array.getElem?_eq_getElem hj'] using ih cs[j])
      simpa using this
    · rename_i cs
      have := Rep.tup (c := c) (cs.toList.map (AV.ofV d)) cs.toList (by simp) (fun j hj => by
        have hj' : j < cs.size := by simpa using hj
        simpa [hj', List.getD, Array.getElem?_eq_getElem hj'] using ih cs[j])
      simpa using this
    · exact .any v

section
variable {P : Program} {E : Env G} {fc : FC} {bl : Nat → Nat} {sv : Nat → Value} {st : St G} {a : Act} {w : World}

theorem Rel.eval (h : Rel P E fc bl sv st a w) (x : Operand) : Rep (st.cx P E fc bl sv w) (st.eval x) (a.eval x) := by
  cases x with
  | tmp t => exact h.tmps t
  | const v => exact Rep.ofV 3 v
  | global g => exact .any _
  | func f => exact Rep.fnv (.func f) [] [] [] [] rfl (fun j h => by simp at h) rfl (fun j h => by simp at h)

/-- What an operation leaves. -/
def Out (P : Program) (E : Env G) (fc : FC) (bl : Nat → Nat) (sv : Nat → Value) (st : St G) (w : World) (e : Eff G) (v : Value) (w' : World) : Prop :=
  ∃ bl' sv', MRel P E fc bl' sv' (st.upd e.upd) w' ∧ Keeps (st.cx P E fc bl sv w) ((st.upd e.upd).cx P E fc bl' sv' w') ∧ Rep ((st.upd e.upd).cx P E fc bl' sv' w') e.res v

/-- A fence that lets all in; it says of what make the frame is of which the rules speak. -/
def WF (ro : Option Nat) : Fence := { Fence.wide with round := ro }
theorem callsWF {ro : Option Nat} {n : Nat} {f : FuncId} {args : Array Value} {R : Ending → World → Prop} (h : Calls P f args w R) : CallsIn (WF ro) n P f args w R := callsIn_wide.2 h
theorem stepsWF {ro : Option Nat} {m m' : Machine} : StepsIn (Machine.fenced P (WF ro)) P m m' ↔ Steps P m m' := stepsIn_wide
/-- An operation lands where R says. -/
def Lands (P : Program) (o : Oper) (a : Act) (w : World) (R : Value → World → Prop) : Prop :=
  ∀ (ro : Option Nat) (n : Nat) (next : Act → World → Prop) (Q : Exit → Act → World → Prop), (∀ v w', R v w' → next (a.put o.dst v) w') → o.wpIn (WF ro) n P a w next Q
theorem Lands.value {o : Oper} {R : Value → World → Prop} {v : Value} {w' : World} (h : (execOp a.eval o).run P w = .ok (.value v) w') (hR : R v w') (hd : ∀ c, o.op ≠ .defer c := by intro c h; cases h) : Lands P o a w R :=
  fun ro n next Q hn => ⟨fun _ _ => trivial, by rw [Oper.semAt_eq _ _ _ hd, h]; exact hn v w' hR⟩
theorem Lands.skip {o : Oper} {R : Value → World → Prop} {w' : World} (h : (execOp a.eval o).run P w = .ok .skip w') (hR : R undef w') (hd : ∀ c, o.op ≠ .defer c := by intro c h; cases h) : Lands P o a w R :=
  fun ro n next Q hn => ⟨fun _ _ => trivial, by rw [Oper.semAt_eq _ _ _ hd, h]; exact hn undef w' hR⟩
theorem Lands.mono {o : Oper} {R R' : Value → World → Prop} (h : Lands P o a w R) (hr : ∀ v w', R v w' → R' v w') : Lands P o a w R' :=
  fun ro n next Q hn => h ro n next Q fun v w' r => hn v w' (hr v w' r)

theorem Out.pure (m : MRel P E fc bl sv st w) {r : AV G} {v : Value} (h : Rep (st.cx P E fc bl sv w) r v) : Out P E fc bl sv st w ⟨r, []⟩ v w :=
  ⟨bl, sv, m, Keeps.refl _, h⟩

theorem Act.put_getD (a : Act) (d : Nat) (v : Value) (x : Nat) (hd : d < a.tmps.size) : (a.put (some d) v).tmps.getD x undef = if d = x then v else a.tmps.getD x undef := by
  simp only [Act.put, Array.getD_eq_getD_getElem?, Array.getElem?_setIfInBounds]
  split
  · rename_i h; subst h; simp [hd]
  · rfl

theorem Rel.put (h : Rel P E fc bl sv st a w) {d : Option Nat} (hd : ∀ x, d = some x → x < fc.nt) {r : AV G} {v : Value} (hr : Rep (st.cx P E fc bl sv w) r v) : Rel P E fc bl sv (st.put d r) (a.put d v) w := by
  have hb : ∀ id, st.blk id = (st.put d r).blk id := fun id => (St.put_blk st d r id).symm
  refine ⟨h.m.congr hb, ?_, ?_, ?_⟩
  · cases d <;> exact h.marks
  · cases d with
    | none => exact h.size
    | some d => simp [Act.put, h.size]
  · intro x
    rw [← cx_congr hb]
    cases d with
    | none => exact h.tmps x
    | some d =>
      rw [St.get_put, Act.put_getD a d v x (by rw [h.size]; exact hd d rfl)]
      split
      · exact hr
      · exact h.tmps x

theorem Rel.app (h : Rel P E fc bl sv st a w) {d : Option Nat} (hd : ∀ x, d = some x → x < fc.nt) {e : Eff G} {v : Value} {w' : World} (ho : Out P E fc bl sv st w e v w') :
    ∃ bl' sv', Rel P E fc bl' sv' (st.app d e) (a.put d v) w' := by
  obtain ⟨bl', sv', m, k, r⟩ := ho
  have h1 : Rel P E fc bl' sv' (st.upd e.upd) a w' := ⟨m, (by obtain ⟨ds, h1, h2, h3⟩ := h.marks; exact ⟨ds, h1, h2, marks_keep k h3⟩), h.size, fun x => (h.tmps x).keep k⟩
  refine ⟨bl', sv', ?_⟩
  have h2 := h1.put (d := d) hd r
  have e1 : (st.upd e.upd).put d e.res = st.app d e := by cases d <;> rfl
  exact e1 ▸ h2

/-! ### Types -/
theorem run_sizeOf? {t n : Nat} (h : sizeOf? P t = some n) : (Go.sizeOf t).run P w = .ok n w := by
  unfold sizeOf? at h
  obtain ⟨i, hi, rfl⟩ := Option.map_eq_some_iff.1 h
  simp [Go.sizeOf, typeInfo, hi]
theorem run_agg? {t : Nat} {b : Bool} (h : agg? P t = some b) : (Go.isAgg t).run P w = .ok b w := by
  unfold agg? at h
  cases hu : P.underlying t with
  | none => simp [hu] at h
  | some d => cases d <;> simp_all [Go.isAgg, run_underlying]

theorem part_ok {c : Cx G} {t off : Nat} {cs : List (AV G)} {r : AV G} {vs : List Value} (h : partOf P t cs off = some r) (hr : Reps c cs vs) : ∃ v, (Go.part t vs.toArray off).run P w = .ok v w ∧ Rep c r v := by
  unfold partOf at h
  cases ha : agg? P t with
  | none => simp [ha] at h
  | some b =>
    cases hs : sizeOf? P t with
    | none => cases b <;> simp [ha, hs] at h
    | some n =>
      cases b with
      | true =>
        simp only [ha, hs] at h
        split at h
        · obtain rfl := Option.some.inj h
          refine ⟨_, by simp only [Go.part, Sem.run_bind, run_agg? ha, Result.andThen_ok, if_true, run_sizeOf? hs, Sem.run_pure]; rfl, ?_⟩
          have h2 := (hr.drop off).take n
          have e : (vs.toArray.extract off (off + n)) = ((vs.drop off).take n).toArray := by simp [List.take_drop]
          rw [e]
          exact .agg _ _ h2.1 h2.2
        · cases h
      | false =>
        simp only [ha, hs] at h
        obtain ⟨v, hv, hrep⟩ := hr.get h
        refine ⟨v, ?_, hrep⟩
        simp only [Go.part, Sem.run_bind, run_agg? ha, Result.andThen_ok, Bool.false_eq_true, if_false, List.getElem?_toArray, hv, Sem.run_pure]

end
end Go.Proofs.Ytemdppcnhlnicaa.Ev
