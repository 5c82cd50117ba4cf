/- A region in whatever order. -/
import Derived.Test.YtemdppcnhlnicaaEvK
import Derived.Orders
set_option linter.unusedVariables false
set_option linter.unusedSimpArgs false
namespace Go.Proofs.Ytemdppcnhlnicaa.Ev
open Go Go.RowKit
variable {G : Nat → Type}

/-! ### States that read alike -/
structure SEq (s t : St G) : Prop where
  get : ∀ d, s.get d = t.get d
  blk : ∀ id, s.blk id = t.blk id
theorem SEq.refl (s : St G) : SEq s s := ⟨fun _ => rfl, fun _ => rfl⟩
theorem SEq.symm {s t : St G} (h : SEq s t) : SEq t s := ⟨fun d => (h.get d).symm, fun i => (h.blk i).symm⟩
theorem SEq.trans {s t u : St G} (h : SEq s t) (k : SEq t u) : SEq s u := ⟨fun d => (h.get d).trans (k.get d), fun i => (h.blk i).trans (k.blk i)⟩
theorem SEq.rel {P : Program} {E : Env G} {fc : FC} {bl : Nat → Nat} {sv : Nat → Value} {s t : St G} {a : Act} {w : World} (h : SEq s t) (r : Rel P E fc bl sv s a w) : Rel P E fc bl sv t a w :=
  ⟨r.m.congr h.blk, by rw [← cx_congr h.blk]; exact r.marks, r.size, fun d => by rw [← h.get d, ← cx_congr h.blk]; exact r.tmps d⟩
theorem St.get_app (s : St G) (dst : Option Nat) (e : Eff G) (d : Nat) : (s.app dst e).get d = if dst = some d then e.res else s.get d := by
  cases dst with
  | none => rfl
  | some x =>
    have : (s.app (some x) e).get d = (s.put (some x) e.res).get d := rfl
    rw [this, St.get_put]
    by_cases h : x = d <;> simp [h]
theorem St.blk_app (s : St G) (dst : Option Nat) (e : Eff G) (id : Nat) : (s.app dst e).blk id = (lk e.upd id).or (s.blk id) := by
  rw [St.app_blk, St.upd_blk]
theorem SEq.app {s t : St G} (h : SEq s t) (dst : Option Nat) (e : Eff G) : SEq (s.app dst e) (t.app dst e) :=
  ⟨fun d => by simp only [St.get_app, h.get d], fun i => by simp only [St.blk_app, h.blk i]⟩
theorem SEq.put {s t : St G} (h : SEq s t) (dst : Option Nat) (v : AV G) : SEq (s.put dst v) (t.put dst v) := by
  refine ⟨fun d => ?_, fun i => by rw [St.put_blk, St.put_blk, h.blk i]⟩
  cases dst with
  | none => exact h.get d
  | some x => rw [St.get_put, St.get_put, h.get d]
theorem SEq.put_same {s : St G} {d : Nat} {v : AV G} (h : s.get d = v) : SEq (s.put (some d) v) s :=
  ⟨fun x => by rw [St.get_put]; by_cases e : d = x <;> simp [e]; rw [← e, h], fun i => St.put_blk s _ v i⟩

section
variable (P : Program) (E : Env G) (C : Oracle G)

/-- What one operation comes to: its effect ('none': it is passed over), what it has read, its guard's slot and answer. -/
structure Res (G : Nat → Type) where
  eff : Option (Eff G)
  rd : List Nat
  gd : Option (Nat × Bool)
def pre (st : St G) : Option (Nat × Bool) → St G
  | some (d, t) => st.put (some d) (.bool t)
  | none => st
def goOn (st : St G) (o : Oper) (x : Res G) : St G := match x.eff with
  | some e => (pre st x.gd).app o.dst e
  | none => (pre st x.gd).put o.dst (.tup [])
def Res.wr (x : Res G) : List Nat := match x.eff with | some e => e.upd.map (·.1) | none => []
def Res.mk' (x : Res G) : List Nat × List Nat := match x.eff with | some _ => (x.rd, x.wr) | none => ([], [])
def doM (base i : Nat) (o : Oper) (st : St G) (g : Option (Nat × Bool)) : Option (Res G) :=
  match (opQ P E C (pre st g).eval (base + stride * i) o.op).trace (pre st g).blk with
  | some (e, l) => match updOk (pre st g) (base + stride * i) e.upd with
    | true => some ⟨some e, l, g⟩
    | false => none
  | none => none
def stepM (nt : Nat) (all : List Oper) (base i : Nat) (o : Oper) (st : St G) : Option (Res G) :=
  match dstOk nt o.dst with
  | false => none
  | true => match o.guard with
    | none => doM P E C base i o st none
    | some (j, want) => match (all[j]?).bind (·.dst) with
      | some d => match st.get d with
        | .bool t => if t = want then doM P E C base i o st (some (d, t)) else some ⟨none, [], some (d, t)⟩
        | .tup [] => some ⟨none, [], none⟩
        | _ => none
      | none => none
def marksOf (i : Nat) (x : Res G) : List Mk := match x.eff with | some e => [⟨i, x.rd, e.upd.map (·.1)⟩] | none => []

/-- Operations one behind the other, from number i on. -/
def runM (nt : Nat) (all : List Oper) (base : Nat) : List Oper → Nat → St G → List Mk → Option (St G × List Mk)
  | [], _, st, log => some (st, log)
  | o :: r, i, st, log => match stepM P E C nt all base i o st with
    | some x => runM nt all base r (i + 1) (goOn st o x) (marksOf i x ++ log)
    | none => none
theorem regionK_eq {R : Type} (nt : Nat) (all : List Oper) (base : Nat) (K : St G → List Mk → Option R) : ∀ (ops : List Oper) (i : Nat) (st : St G) (log : List Mk),
    regionK P E C nt all base ops i st log K = (runM P E C nt all base ops i st log).bind fun p => K p.1 p.2 := by
  intro ops
  induction ops with
  | nil => intro i st log; rfl
  | cons o r ih =>
    intro i st log
    have perf : ∀ (s0 : St G) (g : Option (Nat × Bool)), (opQ P E C (pre s0 g).eval (base + stride * i) o.op).run (pre s0 g).blk [] (fun e l => match updOk (pre s0 g) (base + stride * i) e.upd with
        | true => regionK P E C nt all base r (i + 1) ((pre s0 g).app o.dst e) (⟨i, l, e.upd.map (·.1)⟩ :: log) K
        | false => none) = ((doM P E C base i o s0 g).bind fun x => runM P E C nt all base r (i + 1) (goOn s0 o x) (marksOf i x ++ log)).bind fun p => K p.1 p.2 := by
      intro s0 g
      rw [Q.run_eq]
      unfold doM
      cases (opQ P E C (pre s0 g).eval (base + stride * i) o.op).trace (pre s0 g).blk with
      | none => rfl
      | some p =>
        obtain ⟨e, l⟩ := p
        simp only [Option.bind_some, List.append_nil]
        cases updOk (pre s0 g) (base + stride * i) e.upd with
        | false => rfl
        | true => exact ih (i + 1) _ _
    have skp : ∀ (s0 : St G) (d : Nat) (t : Bool), regionK P E C nt all base r (i + 1) ((pre s0 (some (d, t))).put o.dst (.tup [])) log K = (runM P E C nt all base r (i + 1) (goOn s0 o ⟨none, [], some (d, t)⟩) (marksOf i (⟨none, [], some (d, t)⟩ : Res G) ++ log)).bind fun p => K p.1 p.2 := fun s0 d t => ih (i + 1) _ _
    have e1 : (runM P E C nt all base (o :: r) i st log) = (stepM P E C nt all base i o st).bind fun x => runM P E C nt all base r (i + 1) (goOn st o x) (marksOf i x ++ log) := by
      simp only [runM]
      cases stepM P E C nt all base i o st <;> rfl
    rw [e1]
    simp only [regionK, stepM]
    cases dstOk nt o.dst with
    | false => rfl
    | true =>
      simp only []
      cases o.guard with
      | none => exact perf st none
      | some gw =>
        obtain ⟨j, want⟩ := gw
        simp only []
        cases (all[j]?).bind (·.dst) with
        | none => rfl
        | some d =>
          simp only []
          cases hg : st.get d with
          | bool t =>
            simp only []
            cases t <;> cases want <;> simp only [if_true, if_false, Bool.false_eq_true, reduceCtorEq]
            · exact perf st (some (d, false))
            · exact skp st d false
            · exact skp st d true
            · exact perf st (some (d, true))
          | tup cs =>
            cases cs with
            | nil => exact ih (i + 1) _ _
            | cons _ _ => rfl
          | _ => rfl
end

section
variable {P : Program} {E : Env G} {C : Oracle G}

theorem opQ_congr {ev ev' : Operand → AV G} {base : Nat} {o : Op} (h : ∀ x ∈ o.operands.toList, ev x = ev' x) : opQ P E C ev base o = opQ P E C ev' base o := by
  have arr : ∀ xs : Array Operand, (∀ x ∈ xs.toList, ev x = ev' x) → xs.toList.map ev = xs.toList.map ev' := fun xs hx => List.map_congr_left hx
  have prs : ∀ ps : Array (Nat × Operand), (∀ x ∈ ps.toList.map (·.2), ev x = ev' x) → (ps.toList.map fun p => (p.1, ev p.2)) = (ps.toList.map fun p => (p.1, ev' p.2)) := fun ps hx =>
    List.map_congr_left fun p hp => by rw [hx p.2 (List.mem_map.2 ⟨p, hp, rfl⟩)]
  cases o <;> simp only [Op.operands] at h <;> simp only [opQ]
  case slice t x lo hi mx =>
    have e0 : ev x = ev' x := h x (by simp)
    have op : ∀ o : Option Operand, (∀ y, o = some y → ev y = ev' y) → o.map ev = o.map ev' := fun o ho => by
      cases o with
      | none => rfl
      | some y => exact congrArg some (ho y rfl)
    rw [e0, op lo (fun y hy => h y (by subst hy; simp)), op hi (fun y hy => h y (by subst hy; simp)), op mx (fun y hy => h y (by subst hy; simp))]
  case build t ps => rw [prs ps (by simpa using h)]
  case buildSlice t n ps => rw [prs ps (by simpa using h)]
  case makeFunc f xs ys => rw [arr xs (fun x hx => h x (by simp at hx ⊢; exact .inl hx)), arr ys (fun x hx => h x (by simp at hx ⊢; exact .inr hx))]
  case call c =>
    obtain ⟨callee, args, ts⟩ := c
    simp only [Call.operands] at h
    have ha := arr args (fun x hx => h x (by simp at hx ⊢; exact .inr hx))
    cases callee with
    | builtin b => simp only [ha]
    | value f =>
      have hf : ev f = ev' f := h f (by simp)
      simp only [ha, hf]
    | invoke r m => rfl
  all_goals first
    | rfl
    | (simp only [List.mem_cons, List.not_mem_nil, or_false, forall_eq_or_imp, forall_eq] at h; first | rw [h] | rw [h.1, h.2] | rw [h.1, h.2.1, h.2.2])
end
end Go.Proofs.Ytemdppcnhlnicaa.Ev
