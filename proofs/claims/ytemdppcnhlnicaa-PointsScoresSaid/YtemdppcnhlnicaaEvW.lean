/- A law, from what is known of its function. -/
import Derived.Test.YtemdppcnhlnicaaEvV
import Derived.Below
set_option linter.unusedVariables false
set_option linter.unusedSimpArgs false
namespace Go.Proofs.Ytemdppcnhlnicaa.Ev
open Go Go.RowKit
variable {G : Nat → Type}
section
variable {P : Program} {E : Env G}

theorem shaped_int {n : Nat} {t : TypeId} {k : IntKind} {as : List (AV G)} (ht : P.underlying t = some (.int k)) (h : Shaped P E n t as) : ∃ m, as = [.int k m] ∧ (Lit.int k m).wf = true := by
  cases n with
  | zero => exact h.elim
  | succ n => unfold Shaped at h; rw [ht] at h; exact h
theorem shaped_bool {n : Nat} {t : TypeId} {as : List (AV G)} (ht : P.underlying t = some .bool) (h : Shaped P E n t as) : ∃ m, as = [.bool m] := by
  cases n with
  | zero => exact h.elim
  | succ n => unfold Shaped at h; rw [ht] at h; exact h
theorem shaped_string {n : Nat} {t : TypeId} {as : List (AV G)} (ht : P.underlying t = some .string) (h : Shaped P E n t as) : ∃ s : ByteArray, as = [.str s] ∧ s.size ≤ maxLen := by
  cases n with
  | zero => exact h.elim
  | succ n => unfold Shaped at h; rw [ht] at h; exact h
theorem shaped_slice {n : Nat} {t e : TypeId} {as : List (AV G)} (ht : P.underlying t = some (.slice e)) (h : Shaped P E n t as) : ∃ xs : List (G e), as = [.ros e xs] ∧ xs.length ≤ maxLen ∧ ∀ x ∈ xs, ∃ m, Shaped P E m e (E.enc e x) := by
  cases n with
  | zero => exact h.elim
  | succ n =>
    unfold Shaped at h; rw [ht] at h
    obtain ⟨xs, h1, h2, h3⟩ := h
    exact ⟨xs, h1, h2, fun x hx => ⟨n, h3 x hx⟩⟩
theorem shaped_struct {n : Nat} {t : TypeId} {fs : Array Field} {as : List (AV G)} (ht : P.underlying t = some (.struct fs)) (h : Shaped P E n t as) : ∃ m parts, as = parts.flatten ∧ ShapedL (Shaped P E m) (fs.toList.map (·.type)) parts := by
  cases n with
  | zero => exact h.elim
  | succ n =>
    unfold Shaped at h; rw [ht] at h
    obtain ⟨parts, h1, h2⟩ := h
    exact ⟨n, parts, h1, h2⟩
theorem shaped_array {n len : Nat} {t e : TypeId} {as : List (AV G)} (ht : P.underlying t = some (.array len e)) (h : Shaped P E n t as) : ∃ m parts, as = parts.flatten ∧ ShapedL (Shaped P E m) (List.replicate len e) parts := by
  cases n with
  | zero => exact h.elim
  | succ n =>
    unfold Shaped at h; rw [ht] at h
    obtain ⟨parts, h1, h2⟩ := h
    exact ⟨n, parts, h1, h2⟩
theorem shapedL_cons {f : TypeId → List (AV G) → Prop} {t : TypeId} {ts : List TypeId} {parts : List (List (AV G))} (h : ShapedL f (t :: ts) parts) : ∃ p r, parts = p :: r ∧ f t p ∧ ShapedL f ts r := by
  cases parts with
  | nil => exact h.elim
  | cons p r => exact ⟨p, r, rfl, h.1, h.2⟩
theorem shapedL_nil {f : TypeId → List (AV G) → Prop} {parts : List (List (AV G))} (h : ShapedL f [] parts) : parts = [] := by
  cases parts with
  | nil => rfl
  | cons p r => exact h.elim

variable {w : World} {H : Type} {enc : TypeId × Value → H} {base : Nat} {spare : Nat → Bool} {held : Bool}
/-- What an argument is. -/
def isAggT (P : Program) (t : TypeId) : Bool := match P.underlying t with | some (.struct _) | some (.array _ _) => true | _ => false
theorem arg_agg (hE : EnvOk P E) {used : List Nat} (hcomp : ∀ n e as, e ∈ used → Shaped P E n e as → ∃ x, E.enc e x = as) {r : Reach} {b0 : Nat} {t : TypeId} {v : Value} {d : DataW H} {ps : List MemPlace} (hok : okT P used 20 t = true) (hagg : isAggT P t = true)
    (hval : Value.okWide P w r b0 t v) (hd : DataW.Trod enc P w base spare held t v d ps) : ∃ n as, Shaped P E n t as ∧ ∀ c : Cx G, Here P E w c → Rep c (.agg as) v := by
  obtain ⟨fuel, hf⟩ := hd
  obtain ⟨as, h1, h2⟩ := read_ok hE hcomp 20 fuel t _ _ hok hf
  have : ∃ cs, v = .agg cs := by
    unfold isAggT at hagg
    unfold Value.okWide at hval
    split at hagg
    · rename_i fs hu; rw [hu] at hval; obtain ⟨cs, h, _⟩ := hval; exact ⟨cs, h⟩
    · rename_i fs hu; rw [hu] at hval; obtain ⟨cs, h, _⟩ := hval; exact ⟨cs, h⟩
    · cases hagg
  obtain ⟨cs, rfl⟩ := this
  refine ⟨fuel, as, h1, fun c hc => ?_⟩
  have := h2 c hc
  have h3 := Rep.agg as cs.toList this.1 this.2
  simpa using h3
theorem arg_one (hE : EnvOk P E) {used : List Nat} (hcomp : ∀ n e as, e ∈ used → Shaped P E n e as → ∃ x, E.enc e x = as) {t : TypeId} {v : Value} {d : DataW H} {ps : List MemPlace} (hok : okT P used 20 t = true) (hv : v.cells = #[v])
    (hd : DataW.Trod enc P w base spare held t v d ps) : ∃ n a, Shaped P E n t [a] ∧ ∀ c : Cx G, Here P E w c → Rep c a v := by
  obtain ⟨fuel, hf⟩ := hd
  obtain ⟨as, h1, h2⟩ := read_ok hE hcomp 20 fuel t _ _ hok hf
  have hl : as.length = 1 := by
    have c : Cx G := ⟨P, E, w, fun _ => 0, fun _ => .nilFunc, fun _ => False, fun _ => False⟩
    have := (h2 ⟨P, E, w, fun _ => 0, fun _ => .nilFunc, fun _ => False, fun _ => False⟩ ⟨rfl, rfl, rfl, fun _ h => h⟩).1
    rw [hv] at this
    simpa using this.symm
  match as, hl with
  | [a], _ =>
    refine ⟨fuel, a, h1, fun c hc => ?_⟩
    have := h2 c hc
    rw [hv] at this
    obtain ⟨u, us, e, h3, h4⟩ := this.cons_inv
    simp only [List.cons.injEq] at e
    rw [e.1]; exact h3

def fcLaw (W : World) : FC where
  w0 := W
  nt := 0
  may := fun _ => False
  no := fun _ => False
  an := fun _ => False
  bl0 := fun _ => 0
  sv0 := fun _ => .nilFunc
  calm := fun _ h => h.elim
theorem law_ok {g : FuncId} {fn : Func} (hfn : P.funcs[g]? = some fn) (hname : (fn.name == "runtime.NumGoroutine") = false) (hbody : fn.body.isNone = false) {V : Type} {encV : V → List (AV G) × List (Nat × Blk G)} {F : V → Option Bool} {encW : Bool → List (AV G) × List (Nat × Blk G)}
    (hF : FnOk P E g encV F encW) (hW : ∀ b, encW b = ([.bool b], [])) {v : V} (hV : (encV v).2 = []) (h : F v = some true) {W : World} {vals : List Value}
    (hr : ∀ c : Cx G, Here P E W c → Reps c (encV v).1 vals) : Calls P g vals.toArray W fun e W' => e = .returned (.bool true) ∧ Below W.heap.size W W' := by
  have no : ∀ id g, ¬ owns (hst (encV v).2) (fun _ => 0) (fun _ => Value.nilFunc) id g := by
    intro id g ho
    rw [hV] at ho
    exact ho
  have m : MRel P E (fcLaw W) (fun _ => 0) (fun _ => .nilFunc) (hst (encV v).2) W := by
    refine ⟨fun id b hb => ?_, fun id id' g h => absurd h (no _ _), rfl, rfl, rfl, Nat.le_refl _, fun _ _ _ => rfl, fun id g h => absurd h (no _ _), fun _ h => h.elim, Nat.le_refl _⟩
    rw [hV] at hb
    cases hb
  have hc := hF v true h (fcLaw W) _ _ W vals rfl (fun _ h => h) m (hr _ ⟨rfl, rfl, rfl, by
    rintro g (⟨id, ho⟩ | hn)
    · exact no _ _ ho
    · exact hn⟩) (fun j hj => by rw [hV] at hj; cases hj)
  rcases hc with ⟨fn', _, _, _, hcalls⟩ | ⟨rv, w', hrun, _⟩
  · refine hcalls.mono ?_
    rintro en W' ⟨rv, rfl, bl', sv', m', hrep, _⟩
    rw [hW] at hrep
    have := hrep.bool_inv
    refine ⟨by rw [this], ⟨m'.os, m'.tape, m'.output, m'.grow, fun k hk => m'.frame k hk (fun h => h)⟩⟩
  · have hp : (program).run P W = .ok P W := rfl
    simp only [callFunc, Sem.run_bind, hp, Result.andThen_ok, hfn, hname, hbody, Bool.false_eq_true, if_false, Sem.run_pure] at hrun
    cases hrun
end
end Go.Proofs.Ytemdppcnhlnicaa.Ev
