/- Every operation does what the evaluator tells, calls by what is known of the callees. -/
import Derived.Test.YtemdppcnhlnicaaEvMa
set_option linter.unusedVariables false
set_option linter.unusedSimpArgs false
namespace Go.Proofs.Ytemdppcnhlnicaa.Ev
open Go Go.RowKit
variable {G : Nat → Type}

/-- A call comes to what R says. -/
def CallRes (P : Program) (g : FuncId) (vals : Array Value) (w : World) (R : Value → World → Prop) : Prop :=
  (∃ fn, P.funcs[g]? = some fn ∧ (fn.name == "runtime.NumGoroutine") = false ∧ fn.body.isNone = false ∧ Calls P g vals w fun en w' => ∃ v, en = .returned v ∧ R v w') ∨
  (∃ v w', (callFunc g vals).run P w = .ok (.value v) w' ∧ R v w')
theorem CallRes.mono {P : Program} {g : FuncId} {vals : Array Value} {w : World} {R R' : Value → World → Prop} (h : CallRes P g vals w R) (hr : ∀ v w', R v w' → R' v w') : CallRes P g vals w R' := by
  rcases h with ⟨fn, h1, h2, h3, h4⟩ | ⟨v, w', h1, h2⟩
  · exact .inl ⟨fn, h1, h2, h3, h4.mono fun en w' ⟨v, e, r⟩ => ⟨v, e, hr v w' r⟩⟩
  · exact .inr ⟨v, w', h1, hr v w' h2⟩

/-- A round comes to what R says: its value and the world behind it. -/
def YRes (P : Program) (vals : List Value) (w : World) (R : Value → World → Prop) : Prop :=
  ∃ l rest f tmps assign body, vals = .func (.yield l) #[] #[] :: rest ∧ (Instr.yield l rest.toArray).run P w = .ok (.round l f tmps assign body) w ∧
    ∀ ro n, RoundIn (WF ro) n P l f tmps assign body w fun en w' => ∃ v, en = .returned v ∧ R v w'
def CalRes (P : Program) (cal : Cal) (vals : List Value) (w : World) (R : Value → World → Prop) : Prop := match cal with
  | .fn g => CallRes P g vals.toArray w R
  | .yl _ => YRes P vals w R
theorem YRes.mono {P : Program} {vals : List Value} {w : World} {R R' : Value → World → Prop} (h : YRes P vals w R) (hr : ∀ v w', R v w' → R' v w') : YRes P vals w R' := by
  obtain ⟨l, rest, f, tmps, as, bd, h1, h2, h3⟩ := h
  exact ⟨l, rest, f, tmps, as, bd, h1, h2, fun ro n => (h3 ro n).mono fun en w' ⟨v, e, r⟩ => ⟨v, e, hr v w' r⟩⟩
theorem CalRes.mono {P : Program} {cal : Cal} {vals : List Value} {w : World} {R R' : Value → World → Prop} (h : CalRes P cal vals w R) (hr : ∀ v w', R v w' → R' v w') : CalRes P cal vals w R' := by
  cases cal with
  | fn g => exact CallRes.mono h hr
  | yl k => exact YRes.mono h hr
def Fresh (st : St G) (base : Nat) : Prop := ∀ id, base ≤ id → id < base + stride → st.blk id = none

def OracleOk (P : Program) (E : Env G) (C : Oracle G) : Prop :=
  ∀ (fc : FC) (bl : Nat → Nat) (sv : Nat → Value) (st : St G) (w : World) (g : Cal) (args : List (AV G)) (vals : List Value) (base : Nat) (e : Eff G) (l : List Nat),
    MRel P E fc bl sv st w → Reps (st.cx P E fc bl sv w) args vals → Fresh st base → (C g args base).trace st.blk = some (e, l) → CalRes P g vals w (Out P E fc bl sv st w e)

section
variable {P : Program} {E : Env G} {C : Oracle G} {fc : FC} {bl : Nat → Nat} {sv : Nat → Value} {st : St G} {a : Act} {w : World}

theorem evals_ok (hR : Rel P E fc bl sv st a w) (xs : Array Operand) : Reps (st.cx P E fc bl sv w) (xs.toList.map st.eval) (xs.map a.eval).toList := by
  refine ⟨by simp, fun j hj => ?_⟩
  have hj' : j < xs.size := by simpa using hj
  have := hR.eval xs[j]
  simpa [List.getD, hj'] using this
theorem parts_ok (hR : Rel P E fc bl sv st a w) (xs : Array (Nat × Operand)) : (xs.map fun (i, x) => (i, a.eval x)).toList.length = (xs.toList.map fun p => (p.1, st.eval p.2)).length ∧
    ∀ (j : Nat) (p : Nat × AV G) (q : Nat × Value), (xs.toList.map fun p => (p.1, st.eval p.2))[j]? = some p → (xs.map fun (i, x) => (i, a.eval x)).toList[j]? = some q → q.1 = p.1 ∧ Rep (st.cx P E fc bl sv w) p.2 q.2 := by
  refine ⟨by simp, fun j p q hp hq => ?_⟩
  simp only [Array.toList_map, List.getElem?_map, Option.map_eq_some_iff] at hp hq
  obtain ⟨x, hx, rfl⟩ := hp
  obtain ⟨y, hy, rfl⟩ := hq
  rw [hx] at hy
  obtain rfl := Option.some.inj hy
  exact ⟨rfl, hR.eval x.2⟩

theorem Lands.call {dst : Option Tmp} {ty : TypeId} {pos : String} {after : Array Edge} {guard : Option (Nat × Bool)} {c : Call} {g : FuncId} {vals : Array Value} {R : Value → World → Prop}
    (he : (execOp a.eval ⟨dst, .call c, ty, pos, after, guard⟩).run P w = (callFunc g vals).run P w) (h : CallRes P g vals w R) : Lands P ⟨dst, .call c, ty, pos, after, guard⟩ a w R := by
  intro ro nn next Q hn
  refine ⟨fun _ _ => trivial, ?_⟩
  rw [Oper.semAt_eq _ _ _ (by intro c h; cases h), he]
  rcases h with ⟨fn, h1, h2, h3, h4⟩ | ⟨v, w', h1, h2⟩
  · have : (callFunc g vals).run P w = .ok (.enter g vals) w := by
      have hp : (program).run P w = .ok P w := rfl
      simp only [callFunc, Sem.run_bind, hp, Result.andThen_ok, h1, h2, h3, Bool.false_eq_true, if_false, Sem.run_pure]
    rw [this]
    exact ⟨fun h => (by cases h), callsWF (h4.mono fun en w' ⟨v, e, r⟩ => by subst e; exact hn v w' r)⟩
  · rw [h1]
    exact hn v w' h2

theorem op_ok (hE : EnvOk P E) (hC : OracleOk P E C) (hR : Rel P E fc bl sv st a w) {o : Oper} {base : Nat} (hf : Fresh st base) {e : Eff G} {l : List Nat} (hq : (opQ P E C st.eval base o.op).trace st.blk = some (e, l)) :
    Lands P o a w (Out P E fc bl sv st w e) := by
  have hfb : st.blk base = none := hf base (Nat.le_refl _) (by simp [stride])
  obtain ⟨dst, op, ty, pos, after, guard⟩ := o
  cases op with
  | move x =>
    obtain rfl := pureE_inv hq
    exact Lands.value (by simp [execOp]) (Out.pure hR.m (hR.eval x))
  | assign x =>
    obtain rfl := pureE_inv hq
    exact Lands.value (by simp [execOp]) (Out.pure hR.m (hR.eval x))
  | pick c x y =>
    simp only [opQ] at hq
    split at hq
    · rename_i t ht
      have hc := hR.eval c
      rw [ht] at hc
      have hc := hc.bool_inv
      split at hq
      · obtain rfl := pureE_inv hq
        exact Lands.value (by simp [execOp, hc, asBool]) (Out.pure hR.m (hR.eval x))
      · obtain rfl := pureE_inv hq
        exact Lands.value (by simp [execOp, hc, asBool]) (Out.pure hR.m (hR.eval y))
    · cases hq
  | alloc t =>
    simp only [opQ] at hq
    split at hq
    · rename_i z hz
      split at hq
      · rename_i hone
        simp only [Q.trace, Option.some.injEq, Prod.mk.injEq] at hq
        obtain ⟨rfl, _⟩ := hq
        obtain ⟨v, h1, h2⟩ := zeroOf_ok (w := w) hz
        refine Lands.value (w' := w.alloc (.cells v.cells t)) (v := .pointer (some ⟨w.heap.size, 0, none⟩)) ?_ ?_
        · simp only [execOp, Instr.alloc, Sem.run_bind, h1, Result.andThen_ok, newVar, newRow, newObj, Sem.run_pure]; rfl
        · have := out_alloc (t := t) hR.m hfb (h2 _ hone)
          simpa using this
      · cases hq
    · cases hq
  | box t x =>
    simp only [opQ] at hq
    split at hq
    · rename_i hone
      simp only [Q.trace, Option.some.injEq, Prod.mk.injEq] at hq
      obtain ⟨rfl, _⟩ := hq
      refine Lands.value (w' := w.alloc (.cells (a.eval x).cells t)) (v := .pointer (some ⟨w.heap.size, 0, none⟩)) ?_ ?_
      · simp only [execOp, Instr.box, Sem.run_bind, newVar, newRow, newObj, Sem.run_pure, Result.andThen_ok]; rfl
      · have := out_alloc (t := t) hR.m hfb ((hR.eval x).cells hone)
        simpa using this
    · cases hq
  | build t ps =>
    obtain ⟨h1, h2⟩ := parts_ok hR ps
    obtain ⟨r, hr, ho⟩ := build_ok hR h1 h2 hq
    exact Lands.value (by simp only [execOp, Sem.run_bind, hr, Result.andThen_ok, Sem.run_pure]) ho
  | buildSlice t n ps =>
    obtain ⟨h1, h2⟩ := parts_ok hR ps
    obtain ⟨r, w', hr, ho⟩ := buildSlice_ok hE hR hfb h1 h2 hq
    exact Lands.value (by simp only [execOp, Sem.run_bind, hr, Result.andThen_ok, Sem.run_pure]) ho
  | load t x =>
    obtain ⟨r, hr, ho⟩ := load_ok hR (hR.eval x) hq
    exact Lands.value (by simp only [execOp, Sem.run_bind, hr, Result.andThen_ok, Sem.run_pure]) ho
  | store t x y =>
    obtain ⟨w', hr, ho⟩ := store_ok hE hR (hR.eval x) (hR.eval y) hq
    exact Lands.skip (by simp only [execOp, Sem.run_bind, hr, Result.andThen_ok, Sem.run_pure]) ho
  | nilCheck x =>
    simp only [opQ] at hq
    have hx := hR.eval x
    split at hq
    · rename_i i o hh
      obtain rfl := pureE_inv hq
      rw [hh] at hx
      have hv := hx.ptr_inv
      refine Lands.value (v := a.eval x) ?_ (Out.pure hR.m hx)
      simp only [execOp, hv, Sem.run_pure]
    · rename_i cs hh
      obtain rfl := pureE_inv hq
      rw [hh] at hx
      refine Lands.value (v := a.eval x) ?_ (Out.pure hR.m hx)
      generalize hv : a.eval x = v at hx
      cases hx
      simp only [execOp, hv, Sem.run_pure]
    · rename_i i1 i2 i3 i4 hh
      obtain rfl := pureE_inv hq
      rw [hh] at hx
      refine Lands.value (v := a.eval x) ?_ (Out.pure hR.m hx)
      generalize hv : a.eval x = v at hx
      cases hx
      simp only [execOp, hv, Sem.run_pure]
    · rename_i i1 i2 i3 i4 hh
      obtain rfl := pureE_inv hq
      rw [hh] at hx
      refine Lands.value (v := a.eval x) ?_ (Out.pure hR.m hx)
      generalize hv : a.eval x = v at hx
      cases hx
      simp only [execOp, hv, Sem.run_pure]
    · rename_i i1 i2 i3 i4 i5 i6 hh
      obtain rfl := pureE_inv hq
      rw [hh] at hx
      refine Lands.value (v := a.eval x) ?_ (Out.pure hR.m hx)
      generalize hv : a.eval x = v at hx
      cases hx
      simp only [execOp, hv, Sem.run_pure]
    · cases hq
  | binOp op t x y u =>
    obtain ⟨r, hr, ho⟩ := bin_ok (ox := x) (oy := y) hR (hR.eval x) (hR.eval y) hq
    exact Lands.value (by simp only [execOp, Sem.run_bind] at hr ⊢; simp only [hr, Result.andThen_ok, Sem.run_pure]) ho
  | unOp op t x =>
    obtain ⟨r, hr, ho⟩ := un_ok hR (hR.eval x) hq
    exact Lands.value (by simp only [execOp, Sem.run_bind, hr, Result.andThen_ok, Sem.run_pure]) ho
  | convert s d x =>
    obtain ⟨r, hr, ho⟩ := convS_ok hE hR (hR.eval x) hq
    exact Lands.value (by simp only [execOp, Sem.run_bind, hr, Result.andThen_ok, Sem.run_pure]) ho
  | sliceToArrayPointer t x =>
    obtain ⟨r, hr, ho⟩ := sap_ok hR (hR.eval x) hq
    exact Lands.value (by simp only [execOp, Sem.run_bind, hr, Result.andThen_ok, Sem.run_pure]) ho
  | makeFunc f xs ys =>
    obtain rfl := pureE_inv hq
    have h1 := evals_ok hR xs
    have h2 := evals_ok hR ys
    refine Lands.value (v := .func f (xs.map a.eval) (ys.map a.eval)) (by simp [execOp, Instr.makeFunc]) (Out.pure hR.m ?_)
    have := Rep.fnv (c := st.cx P E fc bl sv w) f _ _ _ _ h1.1 h1.2 h2.1 h2.2
    rw [Array.toArray_toList, Array.toArray_toList] at this
    exact this
  | makeSlice t n m =>
    obtain ⟨r, w', hr, ho⟩ := make_ok hE hR hfb (hR.eval n) (hR.eval m) hq
    exact Lands.value (by simp only [execOp, Sem.run_bind, hr, Result.andThen_ok, Sem.run_pure]) ho
  | makeMap t r =>
    simp only [opQ] at hq
    split at hq
    · obtain ⟨r, w', hr, ho⟩ := makeMap_ok hR.m hfb hq
      exact Lands.value (by simp only [execOp, Option.map_none, Sem.run_bind, hr, Result.andThen_ok, Sem.run_pure]) ho
    · cases hq
  | lookup t x k ok =>
    obtain ⟨r, hr, ho⟩ := lookup_ok hE hR hfb (hf (base + 1) (by omega) (by simp [stride])) (hR.eval x) (hR.eval k) hq
    exact Lands.value (by simp only [execOp, Sem.run_bind, hr, Result.andThen_ok, Sem.run_pure]) ho
  | mapUpdate t x k v =>
    obtain ⟨w', hr, ho⟩ := mapUpdate_ok hE hR (hR.eval x) (hR.eval k) (hR.eval v) hq
    exact Lands.skip (by simp only [execOp, Sem.run_bind, hr, Result.andThen_ok, Sem.run_pure]) ho
  | fieldAddr s x f =>
    obtain ⟨r, hr, ho⟩ := field_ok hR (hR.eval x) hq
    exact Lands.value (by simp only [execOp, Sem.run_bind, hr, Result.andThen_ok, Sem.run_pure]) ho
  | field s x f =>
    obtain ⟨r, hr, ho⟩ := fieldV_ok hR (hR.eval x) hq
    exact Lands.value (by simp only [execOp, Sem.run_bind, hr, Result.andThen_ok, Sem.run_pure]) ho
  | indexAddr t x i =>
    obtain ⟨r, hr, ho⟩ := indexAddr_ok hR (hR.eval x) (hR.eval i) hq
    exact Lands.value (by simp only [execOp, Sem.run_bind, hr, Result.andThen_ok, Sem.run_pure]) ho
  | index t x i =>
    obtain ⟨r, hr, ho⟩ := indexV_ok hR (hR.eval x) (hR.eval i) hq
    exact Lands.value (by simp only [execOp, Sem.run_bind, hr, Result.andThen_ok, Sem.run_pure]) ho
  | slice t x lo hi mx =>
    have ho : ∀ (o : Option Operand), OptRep (st.cx P E fc bl sv w) (o.map st.eval) (o.map a.eval) := by
      intro o
      cases o with
      | none => trivial
      | some o => exact hR.eval o
    obtain ⟨r, hr, hout⟩ := slice_ok hR (hR.eval x) (ho lo) (ho hi) (ho mx) hq
    exact Lands.value (by simp only [execOp, Sem.run_bind, hr, Result.andThen_ok, Sem.run_pure]) hout
  | extract x i =>
    simp only [opQ] at hq
    split at hq
    · rename_i cs hh
      obtain ⟨r, hp, rfl⟩ := ofO_inv hq
      have hx := hR.eval x
      rw [hh] at hx
      obtain ⟨vs, hv, hr⟩ := hx.tup_inv
      obtain ⟨v, hv2, hrep⟩ := hr.get hp
      exact Lands.value (by simp [execOp, Instr.extract, hv, hv2]) (Out.pure hR.m hrep)
    · cases hq
  | call c =>
    obtain ⟨callee, args, argTypes⟩ := c
    have hargs := evals_ok hR args
    simp only [opQ] at hq
    split at hq
    · rename_i b
      have key : ∀ {s : Sem Value} {v : Value} {w' : World}, (∀ consts, builtin b argTypes ty consts (args.map a.eval) = (do pure (.value (← s)))) → s.run P w = .ok v w' → Out P E fc bl sv st w e v w' →
          Lands P ⟨dst, .call ⟨.builtin b, args, argTypes⟩, ty, pos, after, guard⟩ a w (Out P E fc bl sv st w e) := by
        intro s v w' h1 h2 h3
        refine Lands.value (v := v) (w' := w') ?_ h3
        simp only [execOp, resolve, Sem.run_bind, Sem.run_pure, Result.andThen_ok, invoke, h1, h2]
      unfold builtinQ at hq
      split at hq
      · rename_i t x ht hx
        rw [hx] at hargs
        obtain ⟨v, vs', hv, h1, h2⟩ := hargs.cons_inv
        obtain rfl := h2.nil_inv
        obtain ⟨r, hr, ho⟩ := len_ok (ty := ty) hR h1 hq
        refine key (fun _ => rfl) ?_ ho
        have e1 : argTypes = #[t] := by rw [← Array.toArray_toList (xs := argTypes), ht]
        have e2 : args.map a.eval = #[v] := by rw [← Array.toArray_toList (xs := args.map a.eval), hv]
        rw [e1, e2]; exact hr
      · rename_i k x r hx
        rw [hx] at hargs
        obtain ⟨v, vs', hv, h1, h2⟩ := hargs.cons_inv
        obtain rfl := h1.int_inv
        obtain ⟨res, hf2, rfl⟩ := ofO_inv hq
        obtain ⟨v, h3, h4⟩ := fold_min (P := P) (w := w) _ _ _ _ _ _ hf2 h2
        refine key (fun _ => rfl) ?_ (Out.pure hR.m h4)
        simp only [Builtin.min_, hv]; exact h3
      · rename_i k x r hx
        rw [hx] at hargs
        obtain ⟨v, vs', hv, h1, h2⟩ := hargs.cons_inv
        obtain rfl := h1.int_inv
        obtain ⟨res, hf2, rfl⟩ := ofO_inv hq
        obtain ⟨v, h3, h4⟩ := fold_max (P := P) (w := w) _ _ _ _ _ _ hf2 h2
        refine key (fun _ => rfl) ?_ (Out.pure hR.m h4)
        simp only [Builtin.max_, hv]; exact h3
      · rename_i t u s x ht hx
        rw [hx] at hargs
        obtain ⟨v, vs', hv, h1, h2⟩ := hargs.cons_inv
        obtain ⟨v2, vs2, rfl, h3, h4⟩ := h2.cons_inv
        obtain rfl := h4.nil_inv
        obtain ⟨r, w', hr, ho⟩ := append_ok (ty := ty) hE hR hfb h1 h3 hq
        refine key (fun _ => rfl) ?_ ho
        have e1 : argTypes = #[t, u] := by rw [← Array.toArray_toList (xs := argTypes), ht]
        have e2 : args.map a.eval = #[v, v2] := by rw [← Array.toArray_toList (xs := args.map a.eval), hv]
        rw [e1, e2]; exact hr
      · rename_i t u x y ht hx
        rw [hx] at hargs
        obtain ⟨v, vs', hv, h1, h2⟩ := hargs.cons_inv
        obtain ⟨v2, vs2, rfl, h3, h4⟩ := h2.cons_inv
        obtain rfl := h4.nil_inv
        obtain ⟨r, w', hr, ho⟩ := copy_ok (ty := ty) (u := u) hR h1 h3 hq
        refine key (fun _ => rfl) ?_ ho
        have e1 : argTypes = #[t, u] := by rw [← Array.toArray_toList (xs := argTypes), ht]
        have e2 : args.map a.eval = #[v, v2] := by rw [← Array.toArray_toList (xs := args.map a.eval), hv]
        rw [e1, e2]; exact hr
      · rename_i m n hx
        rw [hx] at hargs
        obtain ⟨v, vs', hv, h1, h2⟩ := hargs.cons_inv
        obtain ⟨v2, vs2, rfl, h3, h4⟩ := h2.cons_inv
        obtain rfl := h4.nil_inv
        obtain ⟨rfl, hm⟩ := h1.flt_inv
        obtain ⟨rfl, hn⟩ := h3.flt_inv
        simp only [pureE, Q.trace, Option.some.injEq, Prod.mk.injEq] at hq
        obtain ⟨rfl, rfl⟩ := hq
        have e2 : args.map a.eval = #[.float .f64 (fl m), .float .f64 (fl n)] := by rw [← Array.toArray_toList (xs := args.map a.eval), hv]
        refine key (s := pure (.complex .f64 (fl m) (fl n))) (fun _ => ?_) rfl (Out.pure hR.m (.cpx _ _ hm hn))
        rw [e2]; rfl
      · rename_i m n hx
        rw [hx] at hargs
        obtain ⟨v, vs', hv, h1, h2⟩ := hargs.cons_inv
        obtain rfl := h2.nil_inv
        obtain ⟨rfl, hm, hn⟩ := h1.cpx_inv
        simp only [pureE, Q.trace, Option.some.injEq, Prod.mk.injEq] at hq
        obtain ⟨rfl, rfl⟩ := hq
        have e2 : args.map a.eval = #[.complex .f64 (fl m) (fl n)] := by rw [← Array.toArray_toList (xs := args.map a.eval), hv]
        refine key (s := pure (.float .f64 (fl m))) (fun _ => ?_) rfl (Out.pure hR.m (.flt _ hm))
        rw [e2]; rfl
      · rename_i m n hx
        rw [hx] at hargs
        obtain ⟨v, vs', hv, h1, h2⟩ := hargs.cons_inv
        obtain rfl := h2.nil_inv
        obtain ⟨rfl, hm, hn⟩ := h1.cpx_inv
        simp only [pureE, Q.trace, Option.some.injEq, Prod.mk.injEq] at hq
        obtain ⟨rfl, rfl⟩ := hq
        have e2 : args.map a.eval = #[.complex .f64 (fl m) (fl n)] := by rw [← Array.toArray_toList (xs := args.map a.eval), hv]
        refine key (s := pure (.float .f64 (fl n))) (fun _ => ?_) rfl (Out.pure hR.m (.flt _ hn))
        rw [e2]; rfl
      · cases hq
    · rename_i f
      split at hq
      · rename_i g first cap hfv
        have hfr := hR.eval f
        rw [hfv] at hfr
        generalize hv : a.eval f = v at hfr
        cases hfr with
        | fnv f cs ds us vs hl hr hl' hr' =>
          have hall : Reps (st.cx P E fc bl sv w) (first ++ args.toList.map st.eval ++ cap) (us ++ (args.map a.eval).toList ++ vs) := (Reps.append ⟨hl, hr⟩ hargs).append ⟨hl', hr'⟩
          have hcall := hC fc bl sv st w (.fn g) _ _ base e l hR.m hall hf hq
          refine Lands.call (g := g) (vals := (us ++ (args.map a.eval).toList ++ vs).toArray) ?_ hcall
          simp only [execOp, resolve, Deferred.ofValue, hv, Sem.run_bind, Sem.run_pure, Result.andThen_ok, invoke]
          congr 2
          simp
      · rename_i id hfv
        have hfr := hR.eval f
        rw [hfv] at hfr
        have hq1 := ask_inv hq
        clear hq
        obtain ⟨l', hq, -⟩ := hq1
        split at hq
        · rename_i key cs hid
          have hargs2 := Reps.cons hfr hargs
          obtain ⟨l0, rest, f0, tmps, as, bd, h1, h2, h3⟩ := hC fc bl sv st w (.yl key) _ _ base e l' hR.m hargs2 hf hq
          obtain ⟨h1a, h1b⟩ := List.cons.inj h1
          have he : (execOp a.eval ⟨dst, .call ⟨.value f, args, argTypes⟩, ty, pos, after, guard⟩).run P w = .ok (.round l0 f0 tmps as bd) w := by
            have e1 : rest.toArray = args.map a.eval := by rw [← h1b]
            rw [e1] at h2
            simp only [execOp, resolve, Deferred.ofValue, h1a, Sem.run_bind, Sem.run_pure, Result.andThen_ok, invoke, Array.empty_append]
            exact h2
          intro ro nn next Q hn
          refine ⟨fun _ _ => trivial, ?_⟩
          rw [Oper.semAt_eq _ _ _ (by intro c h; cases h), he]
          exact ⟨fun h => (by cases h), (h3 ro _).mono fun en w' ⟨v, e, r⟩ => by subst e; exact hn v w' r⟩
        · cases hq
      · cases hq
    · cases hq
  | _ => cases hq
end
end Go.Proofs.Ytemdppcnhlnicaa.Ev
