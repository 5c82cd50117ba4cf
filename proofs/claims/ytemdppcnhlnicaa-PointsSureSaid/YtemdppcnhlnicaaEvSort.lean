/- slices.SortFunc on a row of the call's own, by the kit's contract: what a comparison leaves. -/
import Derived.Test.YtemdppcnhlnicaaEvX
import Derived.Test.YtemdppcnhlnicaaEvW
import Derived.Shelf.SlSortCmp.WholeK
set_option linter.unusedVariables false
set_option linter.unusedSimpArgs false
namespace Go.Proofs.Ytemdppcnhlnicaa.Ev
open Go Go.RowKit Go.Sort
variable {G : Nat → Type}
section
variable {P : Program} {E : Env G}

theorem grow_of {W W' : World} (h1 : W'.os = W.os) (h2 : W'.tape = W.tape) (h3 : W'.output = W.output) (h4 : W.heap.size ≤ W'.heap.size) (h5 : ∀ g : Nat, g < W.heap.size → W'.heap[g]? = W.heap[g]?) (h6 : W.drawn ≤ W'.drawn) :
    ∃ q os', W' = grow (W.drewN q) os' := by
  refine ⟨W'.drawn - W.drawn, W'.heap.extract W.heap.size W'.heap.size, ?_⟩
  obtain ⟨heap, tape, drawn, os, output⟩ := W'
  obtain ⟨heap0, tape0, drawn0, os0, output0⟩ := W
  simp only at h1 h2 h3 h4 h5 h6
  subst h1 h2 h3
  simp only [grow, World.drewN, World.mk.injEq, and_true, true_and]
  refine ⟨?_, by omega⟩
  apply Array.ext_getElem?
  intro i
  rw [Array.getElem?_append]
  split
  · rename_i h; exact h5 i h
  · rename_i h
    rw [Array.getElem?_extract]
    simp only [Nat.min_self]
    split
    · congr 1; omega
    · exact Array.getElem?_eq_none (by omega)

/-- A comparison, known on terms: it gives its number; memory grows, and no more. -/
theorem cmp_calls {g : FuncId} {fn : Func} (hfn : P.funcs[g]? = some fn) (hname : (fn.name == "runtime.NumGoroutine") = false) (hbody : fn.body.isNone = false) {V : Type} {encV : V → List (AV G) × List (Nat × Blk G)} {F : V → Option Int} {encW : Int → List (AV G) × List (Nat × Blk G)}
    (hF : FnOk P E g encV F encW) (hW : ∀ n, encW n = ([.int .i64 n], [])) {v : V} (hV : (encV v).2 = []) {n : Int} (h : F v = some n) {W : World} {vals : List Value}
    (hr : ∀ c : Cx G, Here P E W c → Reps c (encV v).1 vals) : Calls P g vals.toArray W fun e W' => e = .returned (.int .i64 n) ∧ ∃ q os', W' = grow (W.drewN q) os' := by
  have no : ∀ id g, ¬ owns (hst (encV v).2) (fun _ => 0) (fun _ => Value.nilFunc) id g := by
    intro id g ho
    rw [hV] at ho
    exact ho
  have m : MRel P E (fcLaw W) (fun _ => 0) (fun _ => .nilFunc) (hst (encV v).2) W := by
    refine ⟨fun id b hb => ?_, fun id id' g h => absurd h (no _ _), rfl, rfl, rfl, Nat.le_refl _, fun _ _ _ => rfl, fun id g h => absurd h (no _ _), fun _ h => h.elim, Nat.le_refl _⟩
    rw [hV] at hb
    cases hb
  have hc := hF v n h (fcLaw W) _ _ W vals rfl (fun _ h => h) m (hr _ ⟨rfl, rfl, rfl, by
    rintro g (⟨id, ho⟩ | hn)
    · exact no _ _ ho
    · exact hn⟩) (fun j hj => by rw [hV] at hj; cases hj)
  rcases hc with ⟨fn', _, _, _, hcalls⟩ | ⟨rv, w', hrun, _⟩
  · refine hcalls.mono ?_
    rintro en W' ⟨rv, rfl, bl', sv', m', hrep, _⟩
    rw [hW] at hrep
    have := hrep.int_inv
    exact ⟨by rw [this], grow_of m'.os m'.tape m'.output m'.grow (fun k hk => m'.frame k hk (fun h => h)) m'.drawn⟩
  · have hp : (program).run P W = .ok P W := rfl
    simp only [callFunc, Sem.run_bind, hp, Result.andThen_ok, hfn, hname, hbody, Bool.false_eq_true, if_false, Sem.run_pure] at hrun
    cases hrun

/-- The sort's world: the row's block alone is written; blocks behind. -/
theorem sortWorld_other {α : Type} [Inhabited α] (enc : α → List Value) (k : Nat) (w : World) (blk n : Nat) (d : Array α) (os : Array Obj) {g : Nat} (hg : g < w.heap.size) (hne : g ≠ blk) : (sortWorldK enc k w blk 0 n d os).heap[g]? = w.heap[g]? := by
  have hs : (Sort.ahead w n).heap = w.heap := rfl
  simp only [sortWorldK, grow, putRowK, putRow, mapBlock]
  rw [Array.getElem?_append_left (by simpa using hg)]
  simp only [Array.getElem?_modify, hs]
  rw [if_neg (fun h => hne h.symm)]
theorem sortWorld_row {α : Type} [Inhabited α] (enc : α → List Value) (k : Nat) (w : World) (blk n : Nat) (d : Array α) (os : Array Obj) {cur : Array Value} {e : TypeId} {fr : Nat × Nat} (hg : w.heap[blk]? = some (.cells cur e fr)) :
    (sortWorldK enc k w blk 0 n d os).heap[blk]? = some (.cells (putCells id 0 (flatK enc k d) cur) e fr) := by
  have hs : (Sort.ahead w n).heap = w.heap := rfl
  have hlt := (Array.getElem?_eq_some_iff.1 hg).1
  simp only [sortWorldK, grow, putRowK, putRow, mapBlock]
  rw [Array.getElem?_append_left (by simpa using hlt)]
  simp only [Array.getElem?_modify, hs]
  rw [if_pos trivial, hg]
  rfl
theorem putCells_size (F cur : Array Value) : (putCells id 0 F cur).size = cur.size := by simp [putCells]
theorem putCells_take (F cur : Array Value) (h : F.size ≤ cur.size) : (putCells id 0 F cur).toList.take F.size = F.toList := by
  apply List.ext_getElem?
  intro j
  rw [List.getElem?_take]
  split
  · rename_i hj
    have hj2 : j < cur.size := by omega
    rw [Array.getElem?_toList, Array.getElem?_toList]
    simp [putCells, hj, hj2]
  · rename_i hj
    rw [List.getElem?_eq_none (by rw [Array.length_toList]; omega)]
end
end Go.Proofs.Ytemdppcnhlnicaa.Ev
