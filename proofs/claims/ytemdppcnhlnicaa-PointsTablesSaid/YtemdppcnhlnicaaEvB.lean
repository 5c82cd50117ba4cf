/- What is told of values and memory lies so in the world; what a change of the world leaves as it was. -/
import Derived.Test.YtemdppcnhlnicaaEvA
set_option linter.unusedVariables false
set_option linter.unusedSimpArgs false
namespace Go.Proofs.Ytemdppcnhlnicaa.Ev
open Go Go.RowKit
variable {G : Nat → Type}

/-! ### How much is drawn -/
theorem viewStore_drawn {w : World} {p : Program} {a : Addr} {u : TypeId} {k : Addr} {v : Value} {b : Bool} {w' : World} {l : List Addr} (h : w.viewStore p a u k v b = .ok (w', l)) : w'.drawn = w.drawn := by
  unfold World.viewStore at h
  simp only [bind, Except.bind, pure, Except.pure, throw, throwThe, MonadExceptOf.throw] at h
  repeat' split at h
  all_goals first
    | (cases h; done)
    | (simp only [Except.ok.injEq, Prod.mk.injEq] at h; obtain ⟨rfl, _⟩ := h; rfl)
    | skip
theorem farStore_drawn {w : World} {p : Program} {a : Addr} {v : Value} {b : Bool} {w' : World} {l : List Addr} (h : w.farStore p a v b = .ok (w', l)) : w'.drawn = w.drawn := by
  unfold World.farStore at h
  split at h
  · split at h
    · rename_i r hr
      obtain rfl := Except.ok.inj h
      exact viewStore_drawn hr
    · cases h
  · cases h
theorem ask_drawn {α : Type} : ∀ (q : Ask α) (w : World), w.drawn ≤ (w.ask q).2.drawn := by
  intro q
  induction q with
  | done a => intro w; exact Nat.le_refl _
  | ask what range k ih =>
    intro w
    unfold World.ask
    simp only
    split
    · exact ih _ w
    · exact Nat.le_trans (Nat.le_succ _) (ih _ { w with drawn := w.drawn + 1 })
theorem sys_drawn (w : World) (c : Sys) : w.drawn ≤ (w.sys c).2.drawn := by
  have h := ask_drawn (Kernel.perform c w.os) w
  unfold World.sys
  split
  · exact Nat.le_refl _
  · rename_i hh; rw [hh] at h; exact h
theorem freeze_drawn (w : World) (a : Addr) (n : Nat) : (w.freeze a n).drawn = w.drawn := by unfold World.freeze; split <;> rfl
theorem run_drawn {α : Type} {P : Program} : ∀ (s : Sem α) (w : World) (v : α) (w' : World), s.run P w = .ok v w' → w.drawn ≤ w'.drawn := by
  intro s
  induction s with
  | pure a => intro w v w' h; simp only [Sem.run, Result.ok.injEq] at h; rw [h.2]; exact Nat.le_refl _
  | load m a k ih =>
    intro w v w' h
    simp only [Sem.run] at h
    split at h
    · exact ih _ _ _ _ h
    · split at h
      · exact ih _ _ _ _ h
      · cases h
  | store m a x k ih =>
    intro w v w' h
    have go : (match w.cell? a with | some _ => (if w.frozen? a then Result.halt (.unsupported (.unsafePointer "a write to bytes that a string shares")) w else k.run P (w.setCell a x)) | none => (match w.farStore P a x (m == Mode.atomic) with | .ok (w, _) => k.run P w | .error h => .halt h w)) = .ok v w' → w.drawn ≤ w'.drawn := by
      intro h
      split at h
      · split at h
        · cases h
        · exact ih (w.setCell a x) v w' h
      · split at h
        · rename_i w1 l hw
          have := ih _ _ _ h
          rw [farStore_drawn hw] at this
          exact this
        · cases h
    cases x with
    | agg cs => cases h
    | tuple cs => cases h
    | _ => simp only [Sem.run] at h; exact go h
  | new o k ih => intro w v w' h; simp only [Sem.run] at h; have h2 := ih _ _ _ _ h; exact h2
  | shape r k ih => intro w v w' h; simp only [Sem.run] at h; exact ih _ _ _ _ h
  | freeze a n k ih => intro w v w' h; simp only [Sem.run] at h; have := ih _ _ _ h; rw [freeze_drawn] at this; exact this
  | frozen a k ih => intro w v w' h; simp only [Sem.run] at h; exact ih _ _ _ _ h
  | getObj r k ih =>
    intro w v w' h
    simp only [Sem.run] at h
    split at h
    · cases h
    · exact ih _ _ _ _ h
    · cases h
  | setObj r o k ih =>
    intro w v w' h
    simp only [Sem.run] at h
    split at h
    · cases h
    · have h2 := ih _ _ _ h; exact h2
    · cases h
  | choose q k ih =>
    intro w v w' h
    simp only [Sem.run] at h
    split at h
    · exact ih _ _ _ _ h
    · exact Nat.le_trans (Nat.le_succ _) (ih _ _ _ _ h)
  | sys c k ih => intro w v w' h; simp only [Sem.run] at h; exact Nat.le_trans (sys_drawn w c) (ih _ _ _ _ h)
  | program k ih => intro w v w' h; simp only [Sem.run] at h; exact ih _ _ _ _ h
  | mark m k ih => intro w v w' h; simp only [Sem.run] at h; exact ih _ _ _ h
  | halt h0 => intro w v w' h; cases h

structure Cx (G : Nat → Type) where
  P : Program
  E : Env G
  w : World
  bl : Nat → Nat
  sv : Nat → Value
  lv : Nat → Prop
  ow : Nat → Prop

inductive Rep (c : Cx G) : AV G → Value → Prop where
  | any (v : Value) : Rep c .any v
  | int (k : IntKind) (n : Int) : Rep c (.int k n) (.int k n)
  | bool (b : Bool) : Rep c (.bool b) (.bool b)
  | str (s : ByteArray) : Rep c (.str s) (.string s)
  | flt (n : Int) (h : flOk n = true) : Rep c (.flt n) (.float .f64 (fl n))
  | cpx (m n : Int) (h : flOk m = true) (h' : flOk n = true) : Rep c (.cpx m n) (.complex .f64 (fl m) (fl n))
  | nilptr : Rep c .nilptr (.pointer none)
  | nilsl : Rep c .nilsl (.slice none 0 0)
  | nilfn : Rep c .nilfn .nilFunc
  | yld (id : Nat) (h : c.lv id) : Rep c (.yld id) (.func (.yield (c.bl id)) #[] #[])
  | ptr (id off : Nat) (h : c.lv id) : Rep c (.ptr id off) (.pointer (some ⟨c.bl id, off, none⟩))
  | rop (b off : Nat) (cs : List (AV G)) (vs : Nat → Value) (hb : b < c.w.heap.size) (ho : ¬ c.ow b)
      (hc : ∀ j, j < cs.length → c.w.cell? ⟨b, off + j, none⟩ = some (vs j)) (hr : ∀ j (h : j < cs.length), Rep c cs[j] (vs j)) : Rep c (.rop cs) (.pointer (some ⟨b, off, none⟩))
  | osl (id : Nat) (A : Option Addr) (n cap : Nat) (h : c.lv id) (hs : c.sv id = .slice A n cap) : Rep c (.osl id) (.slice A n cap)
  | optr (id i sz off g n cap : Nat) (h : c.lv id) (hs : c.sv id = .slice (some ⟨g, 0, none⟩) n cap) : Rep c (.optr id i sz off) (.pointer (some ⟨g, i * sz + off, none⟩))
  | aptr (id off len i : Nat) (h : c.lv id) (hi : i < len) : Rep c (.aptr id off len i) (.pointer (some ⟨c.bl id, off + i, none⟩))
  | oarr (id i sz off len j g n cap : Nat) (h : c.lv id) (hj : j < len) (hs : c.sv id = .slice (some ⟨g, 0, none⟩) n cap) : Rep c (.oarr id i sz off len j) (.pointer (some ⟨g, i * sz + (off + j), none⟩))
  | sub0 (id sz lo : Nat) (A : Option Addr) (cap : Nat) (h : A = none → cap = 0) : Rep c (.sub id sz lo 0) (.slice A 0 cap)
  | sub (id sz lo n g N cap cap' : Nat) (h : c.lv id) (hs : c.sv id = .slice (some ⟨g, 0, none⟩) N cap) (hn : lo + n ≤ N) (hc : n ≤ cap') : Rep c (.sub id sz lo n) (.slice (some ⟨g, lo * sz, none⟩) n cap')
  | asl (id off n cap : Nat) (h : c.lv id) (hc : n ≤ cap) : Rep c (.asl id off n) (.slice (some ⟨c.bl id, off, none⟩) n cap)
  | ros0 (e : Nat) (A : Option Addr) (cap : Nat) (h : A = none → cap = 0) : Rep c (.ros e []) (.slice A 0 cap)
  | rosn0 (e : Nat) (a : Addr) (cap : Nat) : Rep c (.rosn e []) (.slice (some a) 0 cap)
  | rosn (e : Nat) (xs : List (G e)) (A : Addr) (cap : Nat) (h : Rep c (.ros e xs) (.slice (some A) xs.length cap)) : Rep c (.rosn e xs) (.slice (some A) xs.length cap)
  | ros (e : Nat) (xs : List (G e)) (b off cap sz : Nat) (vs : Nat → Nat → Value) (hsz : sizeOf? c.P e = some sz) (hb : b < c.w.heap.size) (ho : ¬ c.ow b)
      (hc : ∀ i, i < xs.length → ∀ j, j < sz → c.w.cell? ⟨b, off + i * sz + j, none⟩ = some (vs i j))
      (hl : ∀ i (h : i < xs.length), (c.E.enc e xs[i]).length = sz)
      (hr : ∀ i (h : i < xs.length) j (h' : j < (c.E.enc e xs[i]).length), Rep c (c.E.enc e xs[i])[j] (vs i j)) (hcap : xs.length ≤ cap) : Rep c (.ros e xs) (.slice (some ⟨b, off, none⟩) xs.length cap)
  | agg (cs : List (AV G)) (vs : List Value) (hl : vs.length = cs.length) (hr : ∀ j (h : j < cs.length), Rep c cs[j] (vs.getD j undef)) : Rep c (.agg cs) (.agg vs.toArray)
  | tup (cs : List (AV G)) (vs : List Value) (hl : vs.length = cs.length) (hr : ∀ j (h : j < cs.length), Rep c cs[j] (vs.getD j undef)) : Rep c (.tup cs) (.tuple vs.toArray)
  | mapv (id : Nat) (h : c.lv id) : Rep c (.mapv id) (.map (some (c.bl id)))
  | romap (e : Nat) (xs : List (Int × G e)) (b clock : Nat) (es : Array MapEntry) (hb : b < c.w.heap.size) (ho : ¬ c.ow b) (hm : c.w.heap[b]? = some (.map es clock)) (hz : es.size = xs.length)
      (hk : ∀ j (h : j < xs.length), (es[j]?.map (·.key)) = some (.int .i64 xs[j].1)) (vs : Nat → Value) (hv : ∀ j, j < xs.length → (es[j]?.map (·.val)) = some (vs j))
      (hr : ∀ j (h : j < xs.length), Rep c (.rop (c.E.enc e xs[j].2)) (vs j)) : Rep c (.romap e xs) (.map (some b))
  | fnv (f : Fn) (cs ds : List (AV G)) (us vs : List Value) (hl : us.length = cs.length) (hr : ∀ j (h : j < cs.length), Rep c cs[j] (us.getD j undef))
      (hl' : vs.length = ds.length) (hr' : ∀ j (h : j < ds.length), Rep c ds[j] (vs.getD j undef)) : Rep c (.fnv f cs ds) (.func f us.toArray vs.toArray)

/-- Values one by one. -/
def Reps (c : Cx G) (cs : List (AV G)) (vs : List Value) : Prop := vs.length = cs.length ∧ ∀ j (h : j < cs.length), Rep c cs[j] (vs.getD j undef)

theorem Reps.nil (c : Cx G) : Reps c [] [] := ⟨rfl, fun j h => by simp at h⟩
theorem Reps.cons {c : Cx G} {a : AV G} {v : Value} {cs : List (AV G)} {vs : List Value} (h : Rep c a v) (t : Reps c cs vs) : Reps c (a :: cs) (v :: vs) := by
  refine ⟨by simp [t.1], fun j hj => ?_⟩
  cases j with
  | zero => simpa using h
  | succ j => simpa using t.2 j (by simpa using hj)
theorem Reps.cons_inv {c : Cx G} {a : AV G} {cs : List (AV G)} {vs : List Value} (h : Reps c (a :: cs) vs) : ∃ v vs', vs = v :: vs' ∧ Rep c a v ∧ Reps c cs vs' := by
  cases vs with
  | nil => simp [Reps] at h
  | cons v vs => exact ⟨v, vs, rfl, h.2 0 (Nat.zero_lt_succ _), by simpa using h.1, fun j hj => h.2 (j + 1) (Nat.succ_lt_succ hj)⟩
theorem Reps.nil_inv {c : Cx G} {vs : List Value} (h : Reps c [] vs) : vs = [] := List.eq_nil_of_length_eq_zero h.1
theorem Reps.take {c : Cx G} {cs : List (AV G)} {vs : List Value} (h : Reps c cs vs) (n : Nat) : Reps c (cs.take n) (vs.take n) := by
  refine ⟨by simp [h.1], fun j hj => ?_⟩
  have hj' : j < cs.length := by simp at hj; omega
  have := h.2 j hj'
  have h1 : j < n := by simp at hj; omega
  simpa [List.getElem?_take, h1] using this
theorem Reps.drop {c : Cx G} {cs : List (AV G)} {vs : List Value} (h : Reps c cs vs) (n : Nat) : Reps c (cs.drop n) (vs.drop n) := by
  refine ⟨by simp [h.1], fun j hj => ?_⟩
  have := h.2 (n + j) (by simp at hj; omega)
  simpa using this
theorem Reps.append {c : Cx G} {cs ds : List (AV G)} {us vs : List Value} (h : Reps c cs us) (k : Reps c ds vs) : Reps c (cs ++ ds) (us ++ vs) := by
  induction cs generalizing us with
  | nil => obtain rfl := h.nil_inv; simpa using k
  | cons a cs ih => obtain ⟨v, us', rfl, h1, h2⟩ := h.cons_inv; exact .cons h1 (ih h2)
theorem Reps.get {c : Cx G} {cs : List (AV G)} {vs : List Value} (h : Reps c cs vs) {j : Nat} {a : AV G} (hj : cs[j]? = some a) : ∃ v, vs[j]? = some v ∧ Rep c a v := by
  obtain ⟨hlt, rfl⟩ := List.getElem?_eq_some_iff.1 hj
  have h1 : j < vs.length := by rw [h.1]; exact hlt
  refine ⟨vs[j], List.getElem?_eq_getElem h1, ?_⟩
  have := h.2 j hlt
  simpa [List.getD, List.getElem?_eq_getElem h1] using this

theorem Rep.one {c : Cx G} {a : AV G} {v : Value} (h : Rep c a v) (h1 : a.one = true) : v.oneCell' = true := by
  cases h <;> simp_all [AV.one, Value.oneCell']
theorem Reps.one {c : Cx G} {cs : List (AV G)} {vs : List Value} (h : Reps c cs vs) (h1 : cs.all AV.one = true) : ∀ v ∈ vs, v.oneCell' = true := by
  induction cs generalizing vs with
  | nil => obtain rfl := h.nil_inv; simp
  | cons a cs ih =>
    obtain ⟨v, vs', rfl, h2, h3⟩ := h.cons_inv
    simp only [List.all_cons, Bool.and_eq_true] at h1
    intro x hx
    rcases List.mem_cons.1 hx with rfl | hx
    · exact h2.one h1.1
    · exact ih h3 h1.2 x hx
theorem Rep.cells {c : Cx G} {a : AV G} {v : Value} (h : Rep c a v) (ha : a.cells.all AV.one = true) : Reps c a.cells v.cells.toList := by
  cases h with
  | agg cs vs hl hr => exact ⟨hl, hr⟩
  | any v => simp [AV.cells, AV.one] at ha
  | tup cs vs hl hr => simp [AV.cells, AV.one] at ha
  | _ => exact Reps.cons (by constructor <;> assumption) (Reps.nil _)

/-- What stays of all that is told. -/
structure Keeps (c c' : Cx G) : Prop where
  P : c'.P = c.P
  E : c'.E = c.E
  size : c.w.heap.size ≤ c'.w.heap.size
  mem : ∀ b, b < c.w.heap.size → ¬ c.ow b → c'.w.heap[b]? = c.w.heap[b]? ∧ ¬ c'.ow b
  ids : ∀ id, c.lv id → c'.lv id ∧ c'.bl id = c.bl id ∧ c'.sv id = c.sv id

theorem Keeps.refl (c : Cx G) : Keeps c c := ⟨rfl, rfl, Nat.le_refl _, fun _ _ h => ⟨rfl, h⟩, fun _ h => ⟨h, rfl, rfl⟩⟩
theorem Keeps.trans {c c1 c2 : Cx G} (h : Keeps c c1) (k : Keeps c1 c2) : Keeps c c2 :=
  ⟨k.P.trans h.P, k.E.trans h.E, Nat.le_trans h.size k.size, fun b hb ho => by
    obtain ⟨h1, h2⟩ := h.mem b hb ho
    obtain ⟨k1, k2⟩ := k.mem b (Nat.lt_of_lt_of_le hb h.size) h2
    exact ⟨k1.trans h1, k2⟩, fun id hi => by
    obtain ⟨h1, h2, h3⟩ := h.ids id hi
    obtain ⟨k1, k2, k3⟩ := k.ids id h1
    exact ⟨k1, k2.trans h2, k3.trans h3⟩⟩
/-- What stays, where a map's blocks are told anew. -/
structure KeepsS (c c' : Cx G) : Prop where
  P : c'.P = c.P
  E : c'.E = c.E
  size : c.w.heap.size ≤ c'.w.heap.size
  mem : ∀ b, b < c.w.heap.size → ¬ c.ow b → c'.w.heap[b]? = c.w.heap[b]? ∧ ¬ c'.ow b
  ids : ∀ id, c.lv id → c'.lv id ∧ c'.bl id = c.bl id ∧ ∀ A n cap, c.sv id = .slice A n cap → c'.sv id = .slice A n cap
theorem Keeps.toS {c c' : Cx G} (k : Keeps c c') : KeepsS c c' := ⟨k.P, k.E, k.size, k.mem, fun id h => ⟨(k.ids id h).1, (k.ids id h).2.1, fun A n cap e => (k.ids id h).2.2.trans e⟩⟩
theorem Rep.keepS {c c' : Cx G} (k : KeepsS c c') {a : AV G} {v : Value} (h : Rep c a v) : Rep c' a v := by
  obtain ⟨P, E, w, bl, sv, lv, ow⟩ := c
  obtain ⟨P', E', w', bl', sv', lv', ow'⟩ := c'
  obtain ⟨hP, hE, hs, hm, hi⟩ := k
  dsimp only at *
  subst hP
  subst hE
  induction h with
  | any v => exact .any v
  | int k n => exact .int k n
  | bool b => exact .bool b
  | str s => exact .str s
  | flt n h => exact .flt n h
  | cpx m n h h' => exact .cpx m n h h'
  | nilptr => exact .nilptr
  | nilsl => exact .nilsl
  | nilfn => exact .nilfn
  | ptr id off h => have := hi id h; dsimp only; rw [← this.2.1]; exact .ptr id off this.1
  | yld id h => have := hi id h; dsimp only; rw [← this.2.1]; exact .yld id this.1
  | rop b off cs vs hb ho hc hr ih =>
    exact .rop b off cs vs (Nat.lt_of_lt_of_le hb hs) (hm b hb ho).2 (fun j hj => (World.cell?_of_block (w := w) (a := ⟨b, off + j, none⟩) (hm b hb ho).1).trans (hc j hj)) ih
  | osl id A n cap h hv => exact .osl id A n cap (hi id h).1 ((hi id h).2.2 _ _ _ hv)
  | optr id i sz off g n cap h hv => exact .optr id i sz off g n cap (hi id h).1 ((hi id h).2.2 _ _ _ hv)
  | aptr id off len i h h2 => have := hi id h; dsimp only; rw [← this.2.1]; exact .aptr id off len i this.1 h2
  | oarr id i sz off len j g n cap h hj hv => exact .oarr id i sz off len j g n cap (hi id h).1 hj ((hi id h).2.2 _ _ _ hv)
  | sub0 id sz lo A cap h => exact .sub0 id sz lo A cap h
  | sub id sz lo n g N cap cap' h hv hn hc => exact .sub id sz lo n g N cap cap' (hi id h).1 ((hi id h).2.2 _ _ _ hv) hn hc
  | asl id off n cap h hc => have := hi id h; dsimp only; rw [← this.2.1]; exact .asl id off n cap this.1 hc
  | ros0 e A cap h => exact .ros0 e A cap h
  | rosn0 e a cap => exact .rosn0 e a cap
  | rosn e xs A cap h ih => exact .rosn e xs A cap ih
  | ros e xs b off cap sz vs hsz hb ho hc hl hr hcap ih =>
    exact .ros e xs b off cap sz vs hsz (Nat.lt_of_lt_of_le hb hs) (hm b hb ho).2 (fun i hi' j hj => (World.cell?_of_block (w := w) (a := ⟨b, off + i * sz + j, none⟩) (hm b hb ho).1).trans (hc i hi' j hj)) hl ih hcap
  | agg cs vs hl hr ih => exact .agg cs vs hl ih
  | tup cs vs hl hr ih => exact .tup cs vs hl ih
  | mapv id h => have := hi id h; dsimp only; rw [← this.2.1]; exact .mapv id this.1
  | romap e xs b clock es hb ho hm2 hz hk vs hv hr ih => exact .romap e xs b clock es (Nat.lt_of_lt_of_le hb hs) (hm b hb ho).2 ((hm b hb ho).1.trans hm2) hz hk vs hv ih
  | fnv f cs ds us vs hl hr hl' hr' ih ih' => exact .fnv f cs ds us vs hl ih hl' ih'
theorem Rep.keep {c c' : Cx G} (k : Keeps c c') {a : AV G} {v : Value} (h : Rep c a v) : Rep c' a v := h.keepS k.toS
theorem Reps.keepS {c c' : Cx G} (k : KeepsS c c') {cs : List (AV G)} {vs : List Value} (h : Reps c cs vs) : Reps c' cs vs := ⟨h.1, fun j hj => (h.2 j hj).keepS k⟩
theorem Reps.keep {c c' : Cx G} (k : Keeps c c') {cs : List (AV G)} {vs : List Value} (h : Reps c cs vs) : Reps c' cs vs := ⟨h.1, fun j hj => (h.2 j hj).keep k⟩

/-- A loop's record, as the machine has it. -/
def loopRec (key : Nat) (ls : LS) (vs : List Value) (ps : Array Tmp) (as bd : Code) (D : Nat) : Loop :=
  { state := lsState ls, pending := lsPend ls, fn := key / 1024, tmps := vs.toArray, params := ps, assign := as, body := bd, defers := D }
/-- A map's blocks, as they are told: two values an entry: the pointer, the row inside. -/
def famV (S : Value) (k : Nat) : Option Value := match S with | .tuple cs => cs[k]? | _ => none
def blkOf : Value → Option Nat
  | .pointer (some a) => some a.block
  | v => v.ownBlock
def famN (S : Value) (k : Nat) : Option Nat := (famV S k).bind blkOf
def holeAt (h : Option (Nat × Nat × Nat)) : Option Nat := h.map (·.1)
/-- The blocks that a map of rows owns, beside its own. -/
def famO (S : Value) (n : Nat) (h : Option Nat) (g : Nat) : Prop := ∃ k, k < 2 * n ∧ h ≠ some (k / 2) ∧ famN S k = some g
def famD (S : Value) (n : Nat) (h : Option Nat) : Prop := ∀ k k' g, k < 2 * n → k' < 2 * n → h ≠ some (k / 2) → h ≠ some (k' / 2) → famN S k = some g → famN S k' = some g → k = k'
/-- An entry: what is pointed to, and the row inside. -/
def EntOk (c : Cx G) (e : Nat) (S : Value) (j : Nat) (x : G e) (v : Value) : Prop :=
  ∃ g sl q vs sz us, famV S (2 * j) = some (.pointer (some ⟨g, 0, none⟩)) ∧ famV S (2 * j + 1) = some sl ∧ v = .pointer (some ⟨g, 0, none⟩) ∧ splitRo (c.E.enc e x) = some q ∧
    c.w.heap[g]? = some (.cells (vs ++ [sl]).toArray e (0, 0)) ∧ Reps c q.f vs ∧ sizeOf? c.P q.e = some sz ∧ c.w.ownsRow 0 q.e sz sl q.ts.length us ∧ Reps c (q.ts.flatMap (c.E.enc q.e)) us ∧ ∀ y ∈ q.ts, (c.E.enc q.e y).length = sz
/-- What is told of a block lies so. -/
def BlkOk (c : Cx G) (id : Nat) : Blk G → Prop
  | .fix t cs => ∃ vs : List Value, c.w.heap[c.bl id]? = some (.cells vs.toArray t (0, 0)) ∧ Reps c cs vs
  | .lp key ls cs => ∃ vs ps as bd D, c.w.heap[c.bl id]? = some (.loop (loopRec key ls vs ps as bd D)) ∧ siteOf c.P key = some (ps, as, bd) ∧ Reps c cs vs
  | .row e xs => ∃ sz vs, sizeOf? c.P e = some sz ∧ c.w.ownsRow 0 e sz (c.sv id) xs.length vs ∧ Reps c (xs.flatMap (c.E.enc e)) vs ∧ ∀ x ∈ xs, (c.E.enc e x).length = sz
  | .dead => True
  | .mset ks => ∃ es clock, c.w.heap[c.bl id]? = some (.map es clock) ∧ es.size = ks.length ∧ ∀ (j : Nat) (k : Int), ks[j]? = some k → ∃ en, es[j]? = some en ∧ en.key = .int .i64 k ∧ en.val = .bool true
  | .mrow e xs h => ∃ es clock, c.w.heap[c.bl id]? = some (.map es clock) ∧ es.size = xs.length ∧
      (∀ (j : Nat) (y : Int × G e), xs[j]? = some y → ∃ en, es[j]? = some en ∧ en.key = .int .i64 y.1 ∧ (holeAt h ≠ some j → EntOk c e (c.sv id) j y.2 en.val)) ∧
      (∀ i p s, h = some (i, p, s) → i < xs.length ∧ c.lv p ∧ c.lv s ∧ ∃ en, es[i]? = some en ∧ en.val = .pointer (some ⟨c.bl p, 0, none⟩)) ∧
      famD (c.sv id) xs.length (holeAt h) ∧ ¬ famO (c.sv id) xs.length (holeAt h) (c.bl id) ∧ (∃ cs, c.sv id = .tuple cs)

theorem ownsRow_same {w w' : World} (hw : ∀ g : Nat, w'.heap[g]? = w.heap[g]?) {e sz n : Nat} {v : Value} {us : List Value} (h : w.ownsRow 0 e sz v n us) : w'.ownsRow 0 e sz v n us := by
  refine ⟨h.1, ?_⟩
  rcases h.2 with h2 | ⟨g2, cap, cur, hv2, hg2, hh2, r⟩
  · exact .inl h2
  · exact .inr ⟨g2, cap, cur, hv2, hg2, (hw g2).trans hh2, r⟩
theorem EntOk.keepS {c c' : Cx G} (k : KeepsS c c') (hw : ∀ g : Nat, c'.w.heap[g]? = c.w.heap[g]?) {e j j' : Nat} {S S' : Value} (h1 : famV S' (2 * j) = famV S (2 * j)) (h2 : famV S' (2 * j + 1) = famV S (2 * j + 1)) {x : G e} {v : Value} (h : EntOk c e S j x v) : EntOk c' e S' j x v := by
  obtain ⟨g, sl, q, vs, sz, us, r1, r2, r3, r4, r5, r6, r7, r8, r9, r10⟩ := h
  refine ⟨g, sl, q, vs, sz, us, h1.trans r1, h2.trans r2, r3, ?_, (hw g).trans r5, r6.keepS k, ?_, ownsRow_same hw r8, ?_, ?_⟩
  · rw [k.E]; exact r4
  · rw [k.P]; exact r7
  · rw [k.E]; exact r9.keepS k
  · rw [k.E]; exact r10
/-- What lies so stays so, where no block is written. -/
theorem BlkOk.keepS {c c' : Cx G} (k : KeepsS c c') (hw : ∀ g : Nat, c'.w.heap[g]? = c.w.heap[g]?) {id : Nat} (hl : c.lv id) (hs : c'.sv id = c.sv id) {b : Blk G} (h : BlkOk c id b) : BlkOk c' id b := by
  have hbl := (k.ids id hl).2.1
  cases b with
  | fix t cs => obtain ⟨vs, h1, h2⟩ := h; exact ⟨vs, by rw [hbl, hw]; exact h1, h2.keepS k⟩
  | row e xs => obtain ⟨sz, vs, h1, h2, h3, h4⟩ := h; exact ⟨sz, vs, by rw [k.P]; exact h1, by rw [hs]; exact ownsRow_same hw h2, by rw [k.E]; exact h3.keepS k, by rw [k.E]; exact h4⟩
  | lp key ls cs => obtain ⟨vs, ps, as, bd, D, h1, h2, h3⟩ := h; exact ⟨vs, ps, as, bd, D, by rw [hbl, hw]; exact h1, by rw [k.P]; exact h2, h3.keepS k⟩
  | dead => trivial
  | mset ks => obtain ⟨es, clock, h1, h2⟩ := h; exact ⟨es, clock, by rw [hbl, hw]; exact h1, h2⟩
  | mrow e xs hole =>
    obtain ⟨es, clock, h1, h2, h3, h4, h5, h6, h7⟩ := h
    refine ⟨es, clock, by rw [hbl, hw]; exact h1, h2, fun j y hj => ?_, fun i p s e1 => ?_, by rw [hs]; exact h5, by rw [hs, hbl]; exact h6, by rw [hs]; exact h7⟩
    · obtain ⟨en, g1, g2, g3⟩ := h3 j y hj
      exact ⟨en, g1, g2, fun hne => (g3 hne).keepS (j' := 0) k hw (by rw [hs]) (by rw [hs])⟩
    · obtain ⟨k1, k2, k3, en, k4, k5⟩ := h4 i p s e1
      exact ⟨k1, (k.ids p k2).1, (k.ids s k3).1, en, k4, by rw [(k.ids p k2).2.1]; exact k5⟩

def owns (st : St G) (bl : Nat → Nat) (sv : Nat → Value) (id g : Nat) : Prop := match st.blk id with
  | some (.fix _ _) => bl id = g
  | some (.lp _ _ _) => bl id = g
  | some (.row _ _) => (sv id).ownBlock = some g
  | some (.mset _) => bl id = g
  | some (.mrow _ xs h) => bl id = g ∨ famO (sv id) xs.length (holeAt h) g
  | _ => False

/-- A function's frame: the world ahead of the call, how many slots, which blocks it may write, which ones it may not hand back as read only. -/
structure FC where
  w0 : World
  nt : Nat
  may : Nat → Prop
  no : Nat → Prop
  an : Nat → Prop
  bl0 : Nat → Nat
  sv0 : Nat → Value
  calm : ∀ g, no g → g < w0.heap.size ∧ ¬ may g

def St.cx (st : St G) (P : Program) (E : Env G) (fc : FC) (bl : Nat → Nat) (sv : Nat → Value) (w : World) : Cx G :=
  { P, E, w, bl, sv, lv := fun id => (st.blk id).isSome = true, ow := fun g => (∃ id, owns st bl sv id g) ∨ fc.no g }

/-- The memory is as told. -/
structure MRel (P : Program) (E : Env G) (fc : FC) (bl : Nat → Nat) (sv : Nat → Value) (st : St G) (w : World) : Prop where
  blks : ∀ id b, st.blk id = some b → BlkOk (st.cx P E fc bl sv w) id b
  disj : ∀ id id' g, owns st bl sv id g → owns st bl sv id' g → id = id'
  os : w.os = fc.w0.os
  tape : w.tape = fc.w0.tape
  output : w.output = fc.w0.output
  grow : fc.w0.heap.size ≤ w.heap.size
  frame : ∀ g, g < fc.w0.heap.size → ¬ fc.may g → w.heap[g]? = fc.w0.heap[g]?
  own : ∀ id g, owns st bl sv id g → fc.may g ∨ fc.w0.heap.size ≤ g
  anch : ∀ id, fc.an id → (st.blk id).isSome = true ∧ bl id = fc.bl0 id ∧ sv id = fc.sv0 id
  drawn : fc.w0.drawn ≤ w.drawn

/-- The mark of a loop over a function, on what is deferred. -/
def markOf (D : Nat) : Deferred := { target := .collected D, args := #[] }
/-- What a mark says abides all that keeps what is not owned. -/
theorem marks_keep {c c' : Cx G} (k : Keeps c c') {ds : List Nat} {n : Nat} (h : ∀ D ∈ ds, c.w.heap[D]? = some (.deferred (some [])) ∧ n ≤ D ∧ ¬ c.ow D) : ∀ D ∈ ds, c'.w.heap[D]? = some (.deferred (some [])) ∧ n ≤ D ∧ ¬ c'.ow D := by
  intro D hD
  obtain ⟨h1, h2, h3⟩ := h D hD
  obtain ⟨k1, k2⟩ := k.mem D (Array.getElem?_eq_some_iff.1 h1).1 h3
  exact ⟨k1.trans h1, h2, k2⟩
structure Rel (P : Program) (E : Env G) (fc : FC) (bl : Nat → Nat) (sv : Nat → Value) (st : St G) (a : Act) (w : World) : Prop where
  m : MRel P E fc bl sv st w
  marks : ∃ ds : List Nat, a.defers = ds.map markOf ∧ ds.Nodup ∧ ∀ D ∈ ds, w.heap[D]? = some (.deferred (some [])) ∧ fc.w0.heap.size ≤ D ∧ ¬ (st.cx P E fc bl sv w).ow D
  size : a.tmps.size = fc.nt
  tmps : ∀ d, Rep (st.cx P E fc bl sv w) (st.get d) (a.tmps.getD d undef)

theorem famO_lt {c : Cx G} {id e : Nat} {xs : List (Int × G e)} {h : Option (Nat × Nat × Nat)} (hb : BlkOk c id (.mrow e xs h)) {g : Nat} (ho : famO (c.sv id) xs.length (holeAt h) g) : g < c.w.heap.size := by
  obtain ⟨es, clock, h1, h2, h3, _⟩ := hb
  obtain ⟨k, hk, hn, hg⟩ := ho
  have hk2 : k / 2 < xs.length := by omega
  obtain ⟨en, _, _, h4⟩ := h3 (k / 2) xs[k / 2] (List.getElem?_eq_getElem hk2)
  obtain ⟨g', sl, q, vs, sz, us, f1, f2, _, _, f3, _, _, f4, _⟩ := h4 hn
  rcases Nat.mod_two_eq_zero_or_one k with hm | hm
  · have : k = 2 * (k / 2) := by omega
    rw [this] at hg
    simp only [famN, f1, Option.bind_some, blkOf, Option.some.injEq] at hg
    exact hg ▸ (Array.getElem?_eq_some_iff.1 f3).1
  · have : k = 2 * (k / 2) + 1 := by omega
    rw [this] at hg
    simp only [famN, f2, Option.bind_some] at hg
    rcases f4.2 with ⟨e1, _⟩ | ⟨g2, cap, cur, e1, _, hh, _⟩
    · rw [e1] at hg; simp [blkOf, Value.ownBlock] at hg
    · rw [e1] at hg
      simp only [blkOf, Value.ownBlock, Option.map_some, Option.some.injEq] at hg
      exact hg ▸ (Array.getElem?_eq_some_iff.1 hh).1
theorem owns_lt {P : Program} {E : Env G} {fc : FC} {bl : Nat → Nat} {sv : Nat → Value} {st : St G} {w : World} (h : MRel P E fc bl sv st w) {id g : Nat} (ho : owns st bl sv id g) : g < w.heap.size := by
  unfold owns at ho
  cases hb : st.blk id with
  | none => simp [hb] at ho
  | some b =>
    have hk := h.blks id b hb
    cases b with
    | fix t cs =>
      simp only [hb] at ho
      obtain ⟨vs, hv, _⟩ := hk
      exact ho ▸ (Array.getElem?_eq_some_iff.1 hv).1
    | row e xs =>
      simp only [hb] at ho
      obtain ⟨sz, vs, _, hv, _⟩ := hk
      exact (hv.lt g ho).2
    | lp key ls cs =>
      simp only [hb] at ho
      obtain ⟨vs, ps, as, bd, D, hv, _, _⟩ := hk
      exact ho ▸ (Array.getElem?_eq_some_iff.1 hv).1
    | dead => simp [hb] at ho
    | mset ks =>
      simp only [hb] at ho
      obtain ⟨es, clock, hv, _⟩ := hk
      exact ho ▸ (Array.getElem?_eq_some_iff.1 hv).1
    | mrow e xs hole =>
      simp only [hb] at ho
      rcases ho with ho | ho
      · obtain ⟨es, clock, hv, _⟩ := hk
        exact ho ▸ (Array.getElem?_eq_some_iff.1 hv).1
      · exact famO_lt hk ho

/-- A change: blocks of the numbers U alone are written, made or let go. -/
theorem MRel.change {P : Program} {E : Env G} {fc : FC} {bl bl' : Nat → Nat} {sv sv' : Nat → Value} {st st' : St G} {w w' : World} (h : MRel P E fc bl sv st w) (U : Nat → Prop)
    (os : w'.os = w.os) (tape : w'.tape = w.tape) (output : w'.output = w.output) (size : w.heap.size ≤ w'.heap.size)
    (mem : ∀ g, g < w.heap.size → (∀ id, U id → ¬ owns st bl sv id g) → w'.heap[g]? = w.heap[g]?)
    (old : ∀ id, ¬ U id → st'.blk id = st.blk id)
    (ids : ∀ id, (st.blk id).isSome = true → (st'.blk id).isSome = true ∧ bl' id = bl id ∧ sv' id = sv id)
    (new : ∀ id g, U id → owns st' bl' sv' id g → (∃ id', U id' ∧ owns st bl sv id' g) ∨ w.heap.size ≤ g)
    (one : ∀ id id' g, U id → U id' → owns st' bl' sv' id g → owns st' bl' sv' id' g → id = id')
    (blks : Keeps (st.cx P E fc bl sv w) (st'.cx P E fc bl' sv' w') → ∀ id b, U id → st'.blk id = some b → BlkOk (st'.cx P E fc bl' sv' w') id b)
    (drawn : w.drawn ≤ w'.drawn := by exact Nat.le_refl _) :
    MRel P E fc bl' sv' st' w' ∧ Keeps (st.cx P E fc bl sv w) (st'.cx P E fc bl' sv' w') := by
  have oldo : ∀ id g, ¬ U id → (owns st' bl' sv' id g ↔ owns st bl sv id g) := by
    intro id g hu
    unfold owns
    rw [old id hu]
    cases hb : st.blk id with
    | none => rfl
    | some b => have := ids id (by simp [hb]); cases b <;> simp [this.2.1, this.2.2]
  have hk : Keeps (st.cx P E fc bl sv w) (st'.cx P E fc bl' sv' w') := by
    refine ⟨rfl, rfl, size, fun b hb ho => ⟨mem b hb fun id _ hi => ho (.inl ⟨id, hi⟩), ?_⟩, ids⟩
    rintro (⟨id, hi⟩ | hi)
    · by_cases hu : U id
      · rcases new id b hu hi with ⟨id', _, h'⟩ | h'
        · exact ho (.inl ⟨id', h'⟩)
        · have hb' : b < w.heap.size := hb
          omega
      · exact ho (.inl ⟨id, (oldo id b hu).1 hi⟩)
    · exact ho (.inr hi)
  refine ⟨⟨?_, ?_, os.trans h.os, tape.trans h.tape, output.trans h.output, Nat.le_trans h.grow size, ?_, ?_, fun id ha => ?_, Nat.le_trans h.drawn drawn⟩, hk⟩
  · intro id b hb
    by_cases hu : U id
    · exact blks hk id b hu hb
    · rw [old id hu] at hb
      have hi := ids id (by simp [hb])
      have hok := h.blks id b hb
      cases b with
      | fix t cs =>
        obtain ⟨vs, hv, hr⟩ := hok
        refine ⟨vs, ?_, hr.keep hk⟩
        have hv' : w.heap[bl id]? = some (.cells vs.toArray t (0, 0)) := hv
        show w'.heap[bl' id]? = _
        rw [hi.2.1, ← hv']
        refine mem _ (Array.getElem?_eq_some_iff.1 hv').1 fun id' hu' ho' => ?_
        exact hu ((h.disj id id' (bl id) (by unfold owns; rw [hb]) ho').symm ▸ hu')
      | row e xs =>
        obtain ⟨sz, vs, hsz, hown, hr, hl⟩ := hok
        refine ⟨sz, vs, hsz, ?_, hr.keep hk, hl⟩
        have hown' : w.ownsRow 0 e sz (sv id) xs.length vs := hown
        show w'.ownsRow 0 e sz (sv' id) xs.length vs
        rw [hi.2.2]
        refine ⟨hown'.1, ?_⟩
        rcases hown'.2 with h2 | ⟨g, cap, cur, hv, hg, hh, r⟩
        · exact .inl h2
        · refine .inr ⟨g, cap, cur, hv, hg, ?_, r⟩
          rw [← hh]
          refine mem _ (Array.getElem?_eq_some_iff.1 hh).1 fun id' hu' ho' => ?_
          have : owns st bl sv id g := by unfold owns; rw [hb]; simp [hv, Value.ownBlock]
          exact hu ((h.disj id id' g this ho').symm ▸ hu')
      | lp key ls cs =>
        obtain ⟨vs, ps, as, bd, D, hv, hsite, hr⟩ := hok
        refine ⟨vs, ps, as, bd, D, ?_, hsite, hr.keep hk⟩
        have hv' : w.heap[bl id]? = some (.loop (loopRec key ls vs ps as bd D)) := hv
        show w'.heap[bl' id]? = _
        rw [hi.2.1, ← hv']
        refine mem _ (Array.getElem?_eq_some_iff.1 hv').1 fun id' hu' ho' => ?_
        exact hu ((h.disj id id' (bl id) (by unfold owns; rw [hb]) ho').symm ▸ hu')
      | dead => trivial
      | mset ks =>
        obtain ⟨es, clock, hv, hz, hr⟩ := hok
        refine ⟨es, clock, ?_, hz, hr⟩
        have hv' : w.heap[bl id]? = some (.map es clock) := hv
        show w'.heap[bl' id]? = _
        rw [hi.2.1, ← hv']
        refine mem _ (Array.getElem?_eq_some_iff.1 hv').1 fun id' hu' ho' => ?_
        exact hu ((h.disj id id' (bl id) (by unfold owns; rw [hb]) ho').symm ▸ hu')
      | mrow e xs hole =>
        have hok0 := hok
        obtain ⟨es, clock, hv, hz, hr, hh, hd, hn, ht⟩ := hok
        have hv' : w.heap[bl id]? = some (.map es clock) := hv
        have same : ∀ g, (bl id = g ∨ famO (sv id) xs.length (holeAt hole) g) → w'.heap[g]? = w.heap[g]? := by
          intro g hg
          have ho : owns st bl sv id g := by unfold owns; rw [hb]; exact hg
          exact mem g (owns_lt h ho) fun id' hu' ho' => hu ((h.disj id id' g ho ho').symm ▸ hu')
        refine ⟨es, clock, ?_, hz, fun j y hj => ?_, fun i p s e1 => ?_, ?_, ?_, ?_⟩
        · show w'.heap[bl' id]? = _
          rw [hi.2.1, ← hv']
          exact same _ (.inl rfl)
        · obtain ⟨en, g1, g2, g3⟩ := hr j y hj
          refine ⟨en, g1, g2, fun hne => ?_⟩
          obtain ⟨g, sl, q, vs, sz, us, f1, f2, f3, f4, f5, f6, f7, f8, f9, f10⟩ := g3 hne
          have f1' : famV (sv id) (2 * j) = some (.pointer (some ⟨g, 0, none⟩)) := f1
          have f2' : famV (sv id) (2 * j + 1) = some sl := f2
          have hjl : j < xs.length := (List.getElem?_eq_some_iff.1 hj).1
          refine ⟨g, sl, q, vs, sz, us, ?_, ?_, f3, f4, ?_, f6.keep hk, f7, ?_, f9.keep hk, f10⟩
          · show famV (sv' id) _ = _
            rw [hi.2.2]; exact f1
          · show famV (sv' id) _ = _
            rw [hi.2.2]; exact f2
          · show w'.heap[g]? = _
            rw [same g (.inr ⟨2 * j, by omega, by rw [show 2 * j / 2 = j by omega]; exact hne, by simp [famN, f1', blkOf]⟩)]
            exact f5
          · have f8' : w.ownsRow 0 q.e sz sl q.ts.length us := f8
            show w'.ownsRow 0 q.e sz sl q.ts.length us
            refine ⟨f8'.1, ?_⟩
            rcases f8'.2 with h2 | ⟨g2, cap, cur, hv2, hg2, hh2, r⟩
            · exact .inl h2
            · refine .inr ⟨g2, cap, cur, hv2, hg2, ?_, r⟩
              rw [← hh2]
              refine same g2 (.inr ⟨2 * j + 1, by omega, by rw [show (2 * j + 1) / 2 = j by omega]; exact hne, ?_⟩)
              simp [famN, f2', hv2, blkOf, Value.ownBlock]
        · obtain ⟨k1, k2, k3, en, k4, k5⟩ := hh i p s e1
          have ip := hk.ids p k2
          refine ⟨k1, ip.1, (hk.ids s k3).1, en, k4, ?_⟩
          rw [ip.2.1]; exact k5
        · show famD (sv' id) _ _
          rw [hi.2.2]; exact hd
        · show ¬ famO (sv' id) _ _ (bl' id)
          rw [hi.2.2, hi.2.1]; exact hn
        · show ∃ cs, sv' id = _
          rw [hi.2.2]; exact ht
  · intro id id' g h1 h2
    by_cases hu : U id <;> by_cases hu' : U id'
    · exact one id id' g hu hu' h1 h2
    · have h2' := (oldo id' g hu').1 h2
      rcases new id g hu h1 with ⟨i, hi, ho⟩ | hge
      · exact absurd (h.disj i id' g ho h2' ▸ hi) hu'
      · exact absurd (owns_lt h h2') (by omega)
    · have h1' := (oldo id g hu).1 h1
      rcases new id' g hu' h2 with ⟨i, hi, ho⟩ | hge
      · exact absurd (h.disj i id g ho h1' ▸ hi) hu
      · exact absurd (owns_lt h h1') (by omega)
    · exact h.disj id id' g ((oldo id g hu).1 h1) ((oldo id' g hu').1 h2)
  · intro g hg hm
    rw [← h.frame g hg hm]
    refine mem g (Nat.lt_of_lt_of_le hg h.grow) fun id _ ho => ?_
    rcases h.own id g ho with h' | h'
    · exact hm h'
    · omega
  · intro id g ho
    by_cases hu : U id
    · rcases new id g hu ho with ⟨i, _, hi⟩ | hge
      · exact h.own i g hi
      · exact .inr (Nat.le_trans h.grow hge)
    · exact h.own id g ((oldo id g hu).1 ho)
  · have h1 := h.anch id ha
    have h2 := ids id h1.1
    exact ⟨h2.1, h2.2.1.trans h1.2.1, h2.2.2.trans h1.2.2⟩

end Go.Proofs.Ytemdppcnhlnicaa.Ev
