/- What any caller may hand over is told: arguments, by their types. -/
import Derived.Test.YtemdppcnhlnicaaEvU
import Derived.OpenShut
import Derived.ChangeArms
import Derived.WideShapes
set_option linter.unusedVariables false
set_option linter.unusedSimpArgs false
namespace Go.Proofs.Ytemdppcnhlnicaa.Ev
open Go Go.RowKit
variable {G : Nat → Type}

def ShapedL (f : TypeId → List (AV G) → Prop) : List TypeId → List (List (AV G)) → Prop
  | [], [] => True
  | t :: ts, p :: r => f t p ∧ ShapedL f ts r
  | _, _ => False
/-- Cells of a type, told. -/
def Shaped (P : Program) (E : Env G) : Nat → TypeId → List (AV G) → Prop
  | 0, _, _ => False
  | d + 1, t, as => match P.underlying t with
    | some .bool => ∃ b, as = [.bool b]
    | some (.int k) => ∃ n, as = [.int k n] ∧ (Lit.int k n).wf = true
    | some .string => ∃ s : ByteArray, as = [.str s] ∧ s.size ≤ maxLen
    | some (.slice e) => ∃ xs : List (G e), as = [.ros e xs] ∧ xs.length ≤ maxLen ∧ ∀ x ∈ xs, Shaped P E d e (E.enc e x)
    | some (.struct fs) => ∃ parts, as = parts.flatten ∧ ShapedL (Shaped P E d) (fs.toList.map (·.type)) parts
    | some (.array n e) => ∃ parts, as = parts.flatten ∧ ShapedL (Shaped P E d) (List.replicate n e) parts
    | _ => False

def contigB (P : Program) : List Field → Nat → Nat → Bool
  | [], o, n => Nat.beq o n
  | f :: r, o, n => match Nat.beq f.offset o with | true => contigB P r (o + P.cellsOf f.type) n | false => false
/-- A type whose values are told. -/
def okT (P : Program) (used : List Nat) : Nat → TypeId → Bool
  | 0, _ => false
  | d + 1, t => match P.underlying t with
    | some .bool | some (.int _) | some .string => true
    | some (.slice e) => mem e used && (Nat.blt 0 (P.cellsOf e) && okT P used d e)
    | some (.struct fs) => contigB P fs.toList 0 (P.cellsOf t) && fs.toList.all fun f => okT P used d f.type
    | some (.array n e) => Nat.beq (P.cellsOf t) (n * P.cellsOf e) && okT P used d e
    | _ => false

theorem contig_flat {P : Program} {cs : List Value} : ∀ (fs : List Field) (o : Nat), contigB P fs o cs.length = true → (fs.map fun f => (cs.drop f.offset).take (P.cellsOf f.type)).flatten = cs.drop o := by
  intro fs
  induction fs with
  | nil => intro o h; have := Nat.eq_of_beq_eq_true h; subst this; simp
  | cons f r ih =>
    intro o h
    simp only [contigB] at h
    split at h
    · rename_i hf
      have := Nat.eq_of_beq_eq_true hf
      subst this
      simp only [List.map_cons, List.flatten_cons, ih _ h]
      rw [← List.drop_drop]
      exact List.take_append_drop _ _
    · cases h
theorem array_flat {cs : List Value} (sz : Nat) : ∀ (n o : Nat), cs.length = o + n * sz → ((List.range n).map fun i => (cs.drop (o + i * sz)).take sz).flatten = cs.drop o := by
  intro n
  induction n with
  | zero => intro o h; simp at h; simp [h]
  | succ n ih =>
    intro o h
    rw [List.range_succ_eq_map]
    simp only [List.map_cons, List.map_map, List.flatten_cons, Nat.zero_mul, Nat.add_zero]
    have := ih (o + sz) (by rw [h, Nat.succ_mul]; omega)
    have e : ((fun i => (cs.drop (o + i * sz)).take sz) ∘ Nat.succ) = fun i => (cs.drop (o + sz + i * sz)).take sz := by
      funext i
      simp only [Function.comp, Nat.succ_eq_add_one]
      congr 2
      rw [Nat.add_mul, Nat.one_mul]; omega
    rw [e, this, ← List.drop_drop]
    exact List.take_append_drop _ _

theorem choose_list {α : Type} (Q : Nat → α → Prop) : ∀ n, (∀ i, i < n → ∃ x, Q i x) → ∃ xs : List α, xs.length = n ∧ ∀ i (h : i < xs.length), Q i xs[i] := by
  intro n
  induction n with
  | zero => intro _; exact ⟨[], rfl, fun i h => by simp at h⟩
  | succ n ih =>
    intro h
    obtain ⟨xs, hl, hx⟩ := ih fun i hi => h i (by omega)
    obtain ⟨x, hq⟩ := h n (by omega)
    refine ⟨xs ++ [x], by simp [hl], fun i hi => ?_⟩
    by_cases hc : i < xs.length
    · rw [List.getElem_append_left hc]; exact hx i hc
    · have : i = xs.length := by simp at hi; omega
      subst this
      simpa [hl] using hq

theorem reps_parts {c : Cx G} : ∀ (parts : List (List (AV G))) (vss : List (List Value)), parts.length = vss.length → (∀ i (h : i < parts.length) (h' : i < vss.length), Reps c parts[i] vss[i]) → Reps c parts.flatten vss.flatten := by
  intro parts
  induction parts with
  | nil => intro vss h _; cases vss with
    | nil => exact Reps.nil _
    | cons _ _ => simp at h
  | cons p r ih =>
    intro vss h hr
    cases vss with
    | nil => simp at h
    | cons v s =>
      simp only [List.flatten_cons]
      exact (hr 0 (by simp) (by simp)).append (ih s (by simpa using h) fun i h1 h2 => by
        have := hr (i + 1) (by simp; omega) (by simp; omega)
        simpa using this)
theorem shapedL_mk {f : TypeId → List (AV G) → Prop} : ∀ (ts : List TypeId) (parts : List (List (AV G))), parts.length = ts.length → (∀ i (h : i < ts.length) (h' : i < parts.length), f ts[i] parts[i]) → ShapedL f ts parts := by
  intro ts
  induction ts with
  | nil => intro parts h _; cases parts with
    | nil => trivial
    | cons _ _ => simp at h
  | cons t r ih =>
    intro parts h hr
    cases parts with
    | nil => simp at h
    | cons p s =>
      refine ⟨hr 0 (by simp) (by simp), ih s (by simpa using h) fun i h1 h2 => ?_⟩
      have := hr (i + 1) (by simp; omega) (by simp; omega)
      simpa using this

section
variable {P : Program} {E : Env G} {w : World} {H : Type} {enc : TypeId × Value → H} {base : Nat} {spare : Nat → Bool} {held : Bool}

def Here (P : Program) (E : Env G) (w : World) (c : Cx G) : Prop := c.P = P ∧ c.E = E ∧ c.w = w ∧ ∀ g, ¬ c.ow g

theorem cells_get {a : Addr} {n : Nat} {cs : List Value} (h : w.cells? base a n = some cs) : cs.length = n ∧ ∀ j, j < n → w.cell? (a.add j) = cs[j]? := by
  unfold World.cells? at h
  split at h
  · exact ⟨by simpa using mapM_some_length h, fun j hj => mapM_some_get h j j (by simp [hj])⟩
  · cases h
theorem cell_plain {a : Addr} {j : Nat} {v : Value} (h : w.cell? (a.add j) = some v) : a.add j = ⟨a.block, a.off + j, none⟩ ∧ a.block < w.heap.size := by
  have hspot : (a.add j).spot = none := by
    cases hsp : (a.add j).spot with
    | none => rfl
    | some s =>
      simp only [World.cell?] at h
      split at h
      · simp [hsp] at h
      · cases h
  have e : a.add j = ⟨a.block, a.off + j, none⟩ := by
    unfold Addr.add at hspot ⊢
    split
    · rename_i h0
      subst h0
      rw [if_pos rfl] at hspot
      cases a
      simp_all
    · rfl
  refine ⟨e, ?_⟩
  rw [e] at h
  simp only [World.cell?] at h
  split at h
  · rename_i hh; exact (Array.getElem?_eq_some_iff.1 hh).1
  · cases h

theorem read_ok (hE : EnvOk P E) {used : List Nat} (hcomp : ∀ n e as, e ∈ used → Shaped P E n e as → ∃ x, E.enc e x = as) :
    ∀ (d n : Nat) (t : TypeId) (cs : List Value) (x : DataW H × List MemPlace), okT P used d t = true → DataW.trod enc P w base spare held n t cs = some x →
      ∃ as, Shaped P E n t as ∧ ∀ c : Cx G, Here P E w c → Reps c as cs := by
  intro d
  induction d with
  | zero => intro n t cs x h; cases h
  | succ d ih =>
    intro n t cs x hok hx
    have hok0 := hok
    cases n with
    | zero => simp [DataW.trod] at hx
    | succ n =>
      unfold okT at hok
      split at hok
      · rename_i hu
        obtain ⟨b, rfl, _⟩ := DataW.trod_bool hu hx
        exact ⟨[.bool b], by unfold Shaped; rw [hu]; exact ⟨b, rfl⟩, fun c _ => Reps.cons (.bool b) (Reps.nil _)⟩
      · rename_i k hu
        obtain ⟨m, rfl, _, hw⟩ := DataW.trod_int hu hx
        exact ⟨[.int k m], by unfold Shaped; rw [hu]; exact ⟨m, rfl, hw⟩, fun c _ => Reps.cons (.int k m) (Reps.nil _)⟩
      · rename_i hu
        obtain ⟨s, rfl, _, hw⟩ := DataW.trod_string hu hx
        exact ⟨[.str s], by unfold Shaped; rw [hu]; exact ⟨s, rfl, hw⟩, fun c _ => Reps.cons (.str s) (Reps.nil _)⟩
      · rename_i e hu
        simp only [Bool.and_eq_true] at hok
        obtain ⟨huse, hpos, hoke⟩ := hok
        have hpos' : 0 < P.cellsOf e := by simpa [Nat.blt_eq] using hpos
        have hsz : sizeOf? P e = some (P.cellsOf e) := by
          unfold Program.cellsOf at hpos' ⊢
          unfold sizeOf?
          cases hi : P.info? e with
          | none => simp [hi] at hpos'
          | some i => simp
        rcases DataW.trod_slice hu hx with ⟨rfl, _⟩ | ⟨a, len, cap, elems, rest, m, hm, rfl, _, hb, hl, hc, hlen, hel, _⟩
        · exact ⟨[.ros e []], by unfold Shaped; rw [hu]; exact ⟨[], rfl, by simp, by simp⟩, fun c _ => Reps.cons (.ros0 e none 0 fun _ => rfl) (Reps.nil _)⟩
        · obtain rfl : m = n := by omega
          obtain ⟨xs, hxl, hxs⟩ := choose_list (fun i (y : G e) => Shaped P E m e (E.enc e y) ∧ ∃ cs, w.cells? base (a.add (i * P.cellsOf e)) (P.cellsOf e) = some cs ∧ ∀ c, Here P E w c → Reps c (E.enc e y) cs) len (by
            intro i hi
            have h1 := hel i hi
            rw [List.getElem?_eq_getElem (by omega)] at h1
            obtain ⟨cs, h2, h3⟩ := Option.bind_eq_some_iff.1 h1
            obtain ⟨as, h4, h5⟩ := ih m e cs _ hoke h3
            obtain ⟨y, rfl⟩ := hcomp m e as (mem_of_mem.1 huse) h4
            exact ⟨y, h4, cs, h2, h5⟩)
          refine ⟨[.ros e xs], ?_, fun c hc => Reps.cons ?_ (Reps.nil _)⟩
          · unfold Shaped
            rw [hu]
            refine ⟨xs, rfl, by omega, fun y hy => ?_⟩
            obtain ⟨i, hi, rfl⟩ := List.getElem_of_mem hy
            exact (hxs i hi).1
          · obtain ⟨hcP, hcE, hcw, hco⟩ := hc
            by_cases h0 : xs = []
            · subst h0
              obtain rfl : len = 0 := by simpa using hxl.symm
              exact .ros0 e (some a) cap fun h => by cases h
            · have hpl : 0 < xs.length := List.length_pos_iff.2 h0
              have at0 : a = ⟨a.block, a.off, none⟩ ∧ a.block < w.heap.size := by
                obtain ⟨_, cs, hcs, _⟩ := hxs 0 hpl
                obtain ⟨hl1, hg⟩ := cells_get hcs
                have h1 := hg 0 hpos'
                rw [List.getElem?_eq_getElem (by omega)] at h1
                have e1 : (a.add (0 * P.cellsOf e)).add 0 = a.add 0 := by simp [Addr.add]
                rw [e1] at h1
                have := cell_plain h1
                simpa [Addr.add] using this
              have cellAt : ∀ i (hi : i < xs.length), ∃ cs : List Value, cs.length = P.cellsOf e ∧ (∀ j, j < P.cellsOf e → w.cell? ⟨a.block, a.off + i * P.cellsOf e + j, none⟩ = cs[j]?) ∧ ∀ c, Here P E w c → Reps c (E.enc e xs[i]) cs := by
                intro i hi
                obtain ⟨_, cs, hcs, hr⟩ := hxs i hi
                obtain ⟨hl1, hg⟩ := cells_get hcs
                refine ⟨cs, hl1, fun j hj => ?_, hr⟩
                rw [← hg j hj, at0.1, add_plain, add_plain]
              have hsl : ∀ i (h : i < xs.length), (E.enc e xs[i]).length = P.cellsOf e := fun i h => hE.len e xs[i] _ hsz
              rw [at0.1, ← hxl]
              refine .ros e xs a.block a.off cap (P.cellsOf e) (fun i j => (w.cell? ⟨a.block, a.off + i * P.cellsOf e + j, none⟩).getD undef) (hcP ▸ hsz) (hcw ▸ at0.2) (hco _) ?_ ?_ ?_ (by omega)
              · intro i hi j hj
                obtain ⟨cs, h1, h2, _⟩ := cellAt i hi
                rw [hcw, h2 j hj, List.getElem?_eq_getElem (by omega)]
                rfl
              · intro i hi; rw [hcE]; exact hsl i hi
              · intro i hi j hj
                obtain ⟨cs, h1, h2, h3⟩ := cellAt i hi
                have hj2 : j < P.cellsOf e := by
                  have := hsl i hi
                  rw [hcE] at hj
                  omega
                have h4 := (h3 c ⟨hcP, hcE, hcw, hco⟩).2 j (by have := hsl i hi; omega)
                have e2 : (w.cell? ⟨a.block, a.off + i * P.cellsOf e + j, none⟩).getD undef = cs.getD j undef := by rw [h2 j hj2]; rfl
                simp only [e2]
                have e3 : (c.E.enc e xs[i])[j] = (E.enc e xs[i])[j]'(by have := hsl i hi; omega) := by congr 1; rw [hcE]
                rw [e3]
                exact h4
      · rename_i fs hu
        simp only [Bool.and_eq_true] at hok
        obtain ⟨hcon, hall⟩ := hok
        obtain ⟨xs, m, hm, _, hlen, hxl, hf⟩ := DataW.trod_struct hu hx
        obtain rfl : m = n := by omega
        obtain ⟨parts, hpl, hps⟩ := choose_list (fun i (p : List (AV G)) => ∃ f, fs[i]? = some f ∧ Shaped P E m f.type p ∧ ∀ c, Here P E w c → Reps c p ((cs.drop f.offset).take (P.cellsOf f.type))) fs.size (by
          intro i hi
          have h1 := hf i fs[i] (Array.getElem?_eq_getElem hi)
          rw [List.getElem?_eq_getElem (by omega)] at h1
          obtain ⟨as, h2, h3⟩ := ih m fs[i].type _ _ (List.all_eq_true.1 hall fs[i] (by simp)) h1
          exact ⟨as, fs[i], Array.getElem?_eq_getElem hi, h2, h3⟩)
        refine ⟨parts.flatten, ?_, fun c hc => ?_⟩
        · unfold Shaped
          rw [hu]
          refine ⟨parts, rfl, shapedL_mk _ _ (by simp [hpl]) fun i h1 h2 => ?_⟩
          obtain ⟨f, hf1, hf2, _⟩ := hps i h2
          have : (fs.toList.map (·.type))[i] = f.type := by
            have h3 : i < fs.size := by omega
            rw [Array.getElem?_eq_getElem h3] at hf1
            simp only [Option.some.injEq] at hf1
            simp [← hf1]
          rw [this]; exact hf2
        · rw [← hlen] at hcon
          have := contig_flat fs.toList 0 hcon
          rw [List.drop_zero] at this
          rw [← this]
          refine reps_parts _ _ (by simp [hpl]) fun i h1 h2 => ?_
          obtain ⟨f, hf1, _, hf3⟩ := hps i h1
          have h3 : i < fs.size := by omega
          rw [Array.getElem?_eq_getElem h3] at hf1
          simp only [Option.some.injEq] at hf1
          have := hf3 c hc
          simpa [← hf1] using this
      · rename_i len e hu
        simp only [Bool.and_eq_true] at hok
        obtain ⟨hsz, hoke⟩ := hok
        have hsz' := Nat.eq_of_beq_eq_true hsz
        obtain ⟨xs, m, hm, _, hlen, hxl, hf⟩ := DataW.trod_array hu hx
        obtain rfl : m = n := by omega
        obtain ⟨parts, hpl, hps⟩ := choose_list (fun i (p : List (AV G)) => Shaped P E m e p ∧ ∀ c, Here P E w c → Reps c p ((cs.drop (i * P.cellsOf e)).take (P.cellsOf e))) len (by
          intro i hi
          have h1 := hf i hi
          rw [List.getElem?_eq_getElem (by omega)] at h1
          obtain ⟨as, h2, h3⟩ := ih m e _ _ hoke h1
          exact ⟨as, h2, h3⟩)
        refine ⟨parts.flatten, ?_, fun c hc => ?_⟩
        · unfold Shaped
          rw [hu]
          refine ⟨parts, rfl, shapedL_mk _ _ (by simp [hpl]) fun i h1 h2 => ?_⟩
          have := (hps i h2).1
          simpa using this
        · have := array_flat (cs := cs) (P.cellsOf e) len 0 (by rw [hlen, hsz']; omega)
          rw [List.drop_zero] at this
          rw [← this]
          refine reps_parts _ _ (by simp [hpl]) fun i h1 h2 => ?_
          have := (hps i h1).2 c hc
          simpa using this
      · cases hok
end
end Go.Proofs.Ytemdppcnhlnicaa.Ev
