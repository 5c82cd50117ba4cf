/- A call of what is known as a function on terms. -/
import Derived.Test.YtemdppcnhlnicaaEvQ
set_option linter.unusedVariables false
set_option linter.unusedSimpArgs false
namespace Go.Proofs.Ytemdppcnhlnicaa.Ev
open Go Go.RowKit
variable {G : Nat → Type}

/-- What is called is known as a function on terms. -/
def CalOk (P : Program) (E : Env G) (cal : Cal) {V W : Type} (encV : V → List (AV G) × List (Nat × Blk G)) (f : V → Option W) (encW : W → List (AV G) × List (Nat × Blk G)) : Prop :=
  ∀ v r, f v = some r → ∀ (fc : FC) (bl : Nat → Nat) (sv : Nat → Value) (w : World) (vals : List Value), fc.w0 = w → (∀ j, ¬ fc.an j) →
    MRel P E fc bl sv (hst (encV v).2) w → Reps ((hst (encV v).2).cx P E fc bl sv w) (encV v).1 vals → (∀ j, (lk (encV v).2 j).isSome = true → j < stride) →
    CalRes P cal vals w fun rv w' => ∃ bl' sv', MRel P E fc bl' sv' (hst (encW r).2) w' ∧ Rep ((hst (encW r).2).cx P E fc bl' sv' w') (resAV (encW r).1) rv ∧
      ∀ j, (lk (encV v).2 j).isSome = true → (lk (encW r).2 j).isSome = true → bl' j = bl j ∧ sv' j = sv j
/-- A function is known as one on terms. -/
def FnOk (P : Program) (E : Env G) (g : FuncId) {V W : Type} (encV : V → List (AV G) × List (Nat × Blk G)) (f : V → Option W) (encW : W → List (AV G) × List (Nat × Blk G)) : Prop := CalOk P E (.fn g) encV f encW

theorem lk_append {β : Type} (a b : List (Nat × β)) (x : Nat) : lk (a ++ b) x = (lk a x).or (lk b x) := by
  induction a with
  | nil => simp [lk]
  | cons p r ih =>
    obtain ⟨k, v⟩ := p
    simp only [List.cons_append, lk_cons, ih]
    split <;> simp
theorem lk_mem {β : Type} {l : List (Nat × β)} {j : Nat} {x : β} (h : lk l j = some x) : (j, x) ∈ l := by
  induction l with
  | nil => simp [lk] at h
  | cons p r ih =>
    obtain ⟨a, b⟩ := p
    rw [lk_cons] at h
    split at h
    · rename_i hh; subst hh; simp only [Option.some.injEq] at h; subst h; exact List.mem_cons_self ..
    · exact List.mem_cons_of_mem _ (ih h)
theorem lk_isSome {β : Type} {l : List (Nat × β)} {p : Nat × β} (h : p ∈ l) : (lk l p.1).isSome = true := by
  induction l with
  | nil => simp at h
  | cons q r ih =>
    obtain ⟨a, b⟩ := q
    rw [lk_cons]
    split
    · rfl
    · rcases List.mem_cons.1 h with rfl | h
      · rename_i hh; exact absurd rfl hh
      · exact ih h
theorem lk_backB {ids : List (Nat × Option Nat)} {base : Nat} {L : List (Nat × Blk G)} {x : Nat} {b : Blk G} (h : lk (L.map (backB ids base)) x = some b) :
    ∃ j b0, lk L j = some b0 ∧ back ids base j = x ∧ b = b0.ren (back ids base) := by
  induction L with
  | nil => simp [lk] at h
  | cons p r ih =>
    obtain ⟨a, b'⟩ := p
    simp only [List.map_cons, backB, lk_cons] at h
    split at h
    · rename_i hh
      simp only [Option.some.injEq] at h
      exact ⟨a, b', by rw [lk_cons, if_pos rfl], hh, h.symm⟩
    · rename_i hh
      obtain ⟨j, b0, h1, h2, h3⟩ := ih h
      refine ⟨j, b0, ?_, h2, h3⟩
      have hne : ¬ a = j := fun e => hh (by rw [e]; exact h2)
      rw [lk_cons, if_neg hne]
      exact h1
theorem lk_backB_get {ids : List (Nat × Option Nat)} {base : Nat} {L : List (Nat × Blk G)} {j : Nat} {b : Blk G} (h : lk L j = some b) (hinj : ∀ p ∈ L, back ids base p.1 = back ids base j → p.1 = j) :
    lk (L.map (backB ids base)) (back ids base j) = some (b.ren (back ids base)) := by
  induction L with
  | nil => simp [lk] at h
  | cons p r ih =>
    obtain ⟨a, b'⟩ := p
    simp only [List.map_cons, backB, lk_cons] at h ⊢
    by_cases ha : a = j
    · subst ha
      rw [if_pos rfl] at h ⊢
      simp only [Option.some.injEq] at h
      rw [h]
    · rw [if_neg ha] at h
      rw [if_neg (fun e => ha (hinj (a, b') (List.mem_cons_self ..) e))]
      exact ih h fun p hp => hinj p (List.mem_cons_of_mem _ hp)
theorem gone_dead {ids : List (Nat × Option Nat)} {out : List (Nat × Blk G)} {p : Nat × Blk G} (h : p ∈ gone ids out) : p.2 = .dead ∧ ∃ j, lk ids j = some (some p.1) ∧ lk out j = none := by
  unfold gone at h
  obtain ⟨q, _, hq⟩ := List.mem_filterMap.1 h
  split at hq
  · rename_i i hi
    split at hq
    · rename_i ho
      obtain rfl := Option.some.inj hq
      exact ⟨rfl, q.1, hi, ho⟩
    · cases hq
  · cases hq
theorem gone_mem {ids : List (Nat × Option Nat)} {out : List (Nat × Blk G)} {j i : Nat} (h1 : lk ids j = some (some i)) (h2 : lk out j = none) : (i, .dead) ∈ gone ids out := by
  unfold gone
  refine List.mem_filterMap.2 ⟨(j, some i), lk_mem h1, ?_⟩
  simp only [h1, h2]

theorem shut_ren (ρ : Nat → Nat) : ∀ (d : Nat) (a : AV G), a.shut d = true → a.ren ρ d = a := by
  intro d
  induction d with
  | zero => intro a h; simp [AV.shut] at h
  | succ d ih =>
    intro a h
    have hm : ∀ cs : List (AV G), cs.all (AV.shut d) = true → cs.map (AV.ren ρ d) = cs := by
      intro cs hc
      conv => rhs; rw [← List.map_id cs]
      exact List.map_congr_left fun x hx => ih x (List.all_eq_true.1 hc x hx)
    cases a with
    | ptr id off => simp [AV.shut] at h
    | osl id => simp [AV.shut] at h
    | optr a b c e => simp [AV.shut] at h
    | aptr a b c e => simp [AV.shut] at h
    | yld a => simp [AV.shut] at h
    | mapv a => simp [AV.shut] at h
    | oarr a b c e f g => simp [AV.shut] at h
    | sub a b c e => simp [AV.shut] at h
    | asl a b c => simp [AV.shut] at h
    | rop cs => simp only [AV.shut] at h; simp only [AV.ren, hm cs h]
    | agg cs => simp only [AV.shut] at h; simp only [AV.ren, hm cs h]
    | tup cs => simp only [AV.shut] at h; simp only [AV.ren, hm cs h]
    | fnv f cs ds => simp only [AV.shut, Bool.and_eq_true] at h; simp only [AV.ren, hm cs h.1, hm ds h.2]
    | _ => rfl

theorem Rep.moved {c c' : Cx G} (hE : EnvOk c.P c.E) (hP : c'.P = c.P) (hEE : c'.E = c.E) (hw : c'.w = c.w) (ρ : Nat → Nat) (hi : ∀ id, c.lv id → c'.lv (ρ id) ∧ c'.bl (ρ id) = c.bl id ∧ c'.sv (ρ id) = c.sv id)
    {a : AV G} {v : Value} (h : Rep c a v) : ∀ d n, ((∀ g, c'.ow g → c.ow g) ∨ a.noRO n = true) → Rep c' (a.ren ρ d) v := by
  have all_get : ∀ {n : Nat} {cs : List (AV G)}, cs.all (AV.noRO n) = true → ∀ j (h : j < cs.length), cs[j].noRO n = true := fun h j hj => List.all_eq_true.1 h _ (List.getElem_mem hj)
  have hx : ∀ {n : Nat} {cs : List (AV G)}, ((∀ g, c'.ow g → c.ow g) ∨ cs.all (AV.noRO n) = true) → ∀ j (h : j < cs.length), (∀ g, c'.ow g → c.ow g) ∨ cs[j].noRO n = true := fun h j hj => h.imp id fun h => all_get h j hj
  induction h with
  | any v => intro d n _; cases d <;> exact .any v
  | int k m => intro d n _; cases d; exact .any _; exact .int k m
  | bool b => intro d n _; cases d; exact .any _; exact .bool b
  | str s => intro d n _; cases d; exact .any _; exact .str s
  | flt m h => intro d n _; cases d; exact .any _; exact .flt m h
  | cpx m m' h h' => intro d n _; cases d; exact .any _; exact .cpx m m' h h'
  | nilptr => intro d n _; cases d; exact .any _; exact .nilptr
  | nilsl => intro d n _; cases d; exact .any _; exact .nilsl
  | nilfn => intro d n _; cases d; exact .any _; exact .nilfn
  | ptr id off h =>
    intro d n _
    cases d
    · exact .any _
    · have := hi id h
      rw [← this.2.1]
      exact .ptr (ρ id) off this.1
  | rop b off cs vs hb ho hc hr ih =>
    intro d n hx2
    cases d with
    | zero => exact .any _
    | succ d =>
      rcases hx2 with hx2 | hx2
      · refine .rop b off _ vs (hw ▸ hb) (fun h => ho (hx2 b h)) (fun j hj => by rw [hw]; exact hc j (by simpa using hj)) fun j hj => ?_
        have := ih j (by simpa using hj) d 0 (.inl hx2)
        simpa using this
      · cases n <;> simp [AV.noRO] at hx2
  | osl id A n cap h hv =>
    intro d m _
    cases d with
    | zero => exact .any _
    | succ d => have := hi id h; exact .osl (ρ id) A n cap this.1 (this.2.2.trans hv)
  | optr id i sz off g n cap h hv => intro d m _; cases d <;> exact .any _
  | aptr id off len i h h2 => intro d m _; cases d <;> exact .any _
  | yld id h =>
    intro d m _
    cases d
    · exact .any _
    · have := hi id h
      rw [← this.2.1]
      exact .yld (ρ id) this.1
  | oarr id i sz off len j g n cap h hj hv => intro d m _; cases d <;> exact .any _
  | mapv id h => intro d m _; cases d <;> exact .any _
  | romap e xs b clock es hb ho hm hz hk vs hv hr ih =>
    intro d n hx2
    cases d with
    | zero => exact .any _
    | succ d =>
      rcases hx2 with hx2 | hx2
      · exact (Rep.romap e xs b clock es hb ho hm hz hk vs hv hr).less hE hP hEE hw hx2 1 rfl
      · cases n <;> simp [AV.noRO] at hx2
  | sub0 id sz lo A cap h => intro d m _; cases d; exact .any _; exact .sub0 (ρ id) sz lo A cap h
  | sub id sz lo n g N cap cap' h hv hn hc => intro d m _; cases d; exact .any _; have := hi id h; exact .sub (ρ id) sz lo n g N cap cap' this.1 (this.2.2.trans hv) hn hc
  | asl id off n cap h hc => intro d m _; cases d <;> exact .any _
  | ros0 e A cap h => intro d n _; cases d; exact .any _; exact .ros0 e A cap h
  | rosn0 e a cap => intro d n _; cases d; exact .any _; exact .rosn0 e a cap
  | rosn e xs A cap h ih =>
    intro d n hx2
    cases d with
    | zero => exact .any _
    | succ d =>
      rcases hx2 with hx2 | hx2
      · exact .rosn e xs A cap (ih 1 1 (.inl hx2))
      · cases n <;> simp [AV.noRO] at hx2
  | ros e xs b off cap sz vs hsz hb ho hc hl hr hcap ih =>
    intro d n hx2
    cases d with
    | zero => exact .any _
    | succ d =>
      rcases hx2 with hx2 | hx2
      · exact (Rep.ros e xs b off cap sz vs hsz hb ho hc hl hr hcap).less hE hP hEE hw hx2 1 rfl
      · cases n <;> simp [AV.noRO] at hx2
  | agg cs vs hl hr ih =>
    intro d n hx2
    cases d with
    | zero => exact .any _
    | succ d =>
      refine .agg _ vs (by simpa using hl) fun j hj => ?_
      have hj' : j < cs.length := by simpa using hj
      have := ih j hj' d (n - 1) (hx2.imp id fun h => by
        cases n with
        | zero => simp [AV.noRO] at h
        | succ n => simp only [AV.noRO] at h; exact all_get h j hj')
      simpa using this
  | tup cs vs hl hr ih =>
    intro d n hx2
    cases d with
    | zero => exact .any _
    | succ d =>
      refine .tup _ vs (by simpa using hl) fun j hj => ?_
      have hj' : j < cs.length := by simpa using hj
      have := ih j hj' d (n - 1) (hx2.imp id fun h => by
        cases n with
        | zero => simp [AV.noRO] at h
        | succ n => simp only [AV.noRO] at h; exact all_get h j hj')
      simpa using this
  | fnv f cs ds us vs hl hr hl' hr' ih ih' =>
    intro d n hx2
    cases d with
    | zero => exact .any _
    | succ d =>
      refine .fnv f _ _ us vs (by simpa using hl) (fun j hj => ?_) (by simpa using hl') fun j hj => ?_
      · have hj' : j < cs.length := by simpa using hj
        have := ih j hj' d (n - 1) (hx2.imp id fun h => by
          cases n with
          | zero => simp [AV.noRO] at h
          | succ n => simp only [AV.noRO, Bool.and_eq_true] at h; exact all_get h.1 j hj')
        simpa using this
      · have hj' : j < ds.length := by simpa using hj
        have := ih' j hj' d (n - 1) (hx2.imp id fun h => by
          cases n with
          | zero => simp [AV.noRO] at h
          | succ n => simp only [AV.noRO, Bool.and_eq_true] at h; exact all_get h.2 j hj')
        simpa using this
end Go.Proofs.Ytemdppcnhlnicaa.Ev
