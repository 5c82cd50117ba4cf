/- Shapes: how values and memory are told by what is in them; and what is known of functions, gathered. -/
import Derived.Test.YtemdppcnhlnicaaEvT
set_option linter.unusedVariables false
set_option linter.unusedSimpArgs false
namespace Go.Proofs.Ytemdppcnhlnicaa.Ev
open Go Go.RowKit
variable {G : Nat → Type}

structure Sh (α V : Type) where
  enc : V → α
  dec : α → Option V
  ok : ∀ a v, dec a = some v → enc v = a

def AV.intOf (k : IntKind) : AV G → Option Int
  | .int k' n => match decide (k' = k) with | true => some n | false => none
  | _ => none
def AV.boolOf : AV G → Option Bool
  | .bool b => some b
  | _ => none
def AV.strOf : AV G → Option ByteArray
  | .str b => some b
  | _ => none
def AV.rosOf (e : Nat) : AV G → Option (List (G e))
  | .ros e' xs => match h : Nat.beq e' e with | true => some (Nat.eq_of_beq_eq_true h ▸ xs) | false => none
  | _ => none
def Sh.int (k : IntKind) : Sh (AV G) Int where
  enc n := .int k n
  dec := AV.intOf k
  ok a v h := by
    cases a with
    | int k' n =>
      simp only [AV.intOf] at h
      split at h
      · rename_i hk
        simp only [decide_eq_true_eq] at hk
        simp only [Option.some.injEq] at h
        rw [hk, h]
      · cases h
    | _ => simp [AV.intOf] at h
def Sh.bool : Sh (AV G) Bool where
  enc b := .bool b
  dec := AV.boolOf
  ok a v h := by cases a <;> simp_all [AV.boolOf]
def Sh.str : Sh (AV G) ByteArray where
  enc b := .str b
  dec := AV.strOf
  ok a v h := by cases a <;> simp_all [AV.strOf]
def AV.fltOf : AV G → Option Int
  | .flt n => some n
  | _ => none
def AV.cpxOf : AV G → Option (Int × Int)
  | .cpx m n => some (m, n)
  | _ => none
def Sh.flt : Sh (AV G) Int where
  enc n := .flt n
  dec := AV.fltOf
  ok a v h := by cases a <;> simp_all [AV.fltOf]
def Sh.cpx : Sh (AV G) (Int × Int) where
  enc v := .cpx v.1 v.2
  dec := AV.cpxOf
  ok a v h := by cases a <;> simp_all [AV.cpxOf]; cases h; exact ⟨rfl, rfl⟩
def Sh.ros (e : Nat) : Sh (AV G) (List (G e)) where
  enc xs := .ros e xs
  dec := AV.rosOf e
  ok a v h := by
    cases a with
    | ros e' xs =>
      simp only [AV.rosOf] at h
      split at h
      · rename_i hk
        have := Nat.eq_of_beq_eq_true hk
        subst this
        simp only [Option.some.injEq] at h
        rw [← h]
      · cases h
    | _ => simp [AV.rosOf] at h
def Sh.any : Sh (AV G) Unit where
  enc _ := .any
  dec | .any => some () | _ => none
  ok a v h := by cases a <;> simp_all
def Sh.nilptr : Sh (AV G) Unit where
  enc _ := .nilptr
  dec | .nilptr => some () | _ => none
  ok a v h := by cases a <;> simp_all
def Sh.nilsl : Sh (AV G) Unit where
  enc _ := .nilsl
  dec | .nilsl => some () | _ => none
  ok a v h := by cases a <;> simp_all
def AV.rosnOf (e : Nat) : AV G → Option (List (G e))
  | .rosn e' xs => match h : Nat.beq e' e with | true => some (Nat.eq_of_beq_eq_true h ▸ xs) | false => none
  | _ => none
def Sh.rosn (e : Nat) : Sh (AV G) (List (G e)) where
  enc xs := .rosn e xs
  dec := AV.rosnOf e
  ok a v h := by
    cases a with
    | rosn e' xs =>
      simp only [AV.rosnOf] at h
      split at h
      · rename_i hk
        have := Nat.eq_of_beq_eq_true hk
        subst this
        simp only [Option.some.injEq] at h
        rw [← h]
      · cases h
    | _ => simp [AV.rosnOf] at h
def Sh.nilfn : Sh (AV G) Unit where
  enc _ := .nilfn
  dec | .nilfn => some () | _ => none
  ok a v h := by cases a <;> simp_all
def Sh.ptr (id off : Nat) : Sh (AV G) Unit where
  enc _ := .ptr id off
  dec | .ptr id' off' => (match Nat.beq id' id, Nat.beq off' off with | true, true => some () | _, _ => none) | _ => none
  ok a v h := by
    cases a with
    | ptr id' off' =>
      simp only [] at h
      split at h
      · rename_i h1 h2; rw [Nat.eq_of_beq_eq_true h1, Nat.eq_of_beq_eq_true h2]
      · cases h
    | _ => cases h
def Sh.yld (id : Nat) : Sh (AV G) Unit where
  enc _ := .yld id
  dec | .yld id' => (match Nat.beq id' id with | true => some () | _ => none) | _ => none
  ok a v h := by
    cases a with
    | yld id' =>
      simp only [] at h
      split at h
      · rename_i h1; rw [Nat.eq_of_beq_eq_true h1]
      · cases h
    | _ => cases h
def Sh.mapv (id : Nat) : Sh (AV G) Unit where
  enc _ := .mapv id
  dec | .mapv id' => (match Nat.beq id' id with | true => some () | _ => none) | _ => none
  ok a v h := by
    cases a with
    | mapv id' =>
      simp only [] at h
      split at h
      · rename_i h1; rw [Nat.eq_of_beq_eq_true h1]
      · cases h
    | _ => cases h
def AV.romapOf (e : Nat) : AV G → Option (List (Int × G e))
  | .romap e' xs => match h : Nat.beq e' e with | true => some (Nat.eq_of_beq_eq_true h ▸ xs) | false => none
  | _ => none
def Sh.romap (e : Nat) : Sh (AV G) (List (Int × G e)) where
  enc xs := .romap e xs
  dec := AV.romapOf e
  ok a v h := by
    cases a with
    | romap e' xs =>
      simp only [AV.romapOf] at h
      split at h
      · rename_i hk
        have := Nat.eq_of_beq_eq_true hk
        subst this
        simp only [Option.some.injEq] at h
        rw [← h]
      · cases h
    | _ => simp [AV.romapOf] at h
def Sh.osl (id : Nat) : Sh (AV G) Unit where
  enc _ := .osl id
  dec | .osl id' => (match Nat.beq id' id with | true => some () | _ => none) | _ => none
  ok a v h := by
    cases a with
    | osl id' =>
      simp only [] at h
      split at h
      · rename_i h1; rw [Nat.eq_of_beq_eq_true h1]
      · cases h
    | _ => cases h
def Sh.sub (id sz : Nat) : Sh (AV G) (Nat × Nat) where
  enc v := .sub id sz v.1 v.2
  dec | .sub id' sz' lo n => (match Nat.beq id' id, Nat.beq sz' sz with | true, true => some (lo, n) | _, _ => none) | _ => none
  ok a v h := by
    cases a with
    | sub id' sz' lo n =>
      simp only [] at h
      split at h
      · rename_i h1 h2; rw [Nat.eq_of_beq_eq_true h1, Nat.eq_of_beq_eq_true h2]; obtain rfl := Option.some.inj h; rfl
      · cases h
    | _ => cases h
def Sh.nil : Sh (List (AV G)) Unit where
  enc _ := []
  dec | [] => some () | _ => none
  ok a v h := by cases a <;> simp_all
def Sh.cons {V W : Type} (s : Sh (AV G) V) (t : Sh (List (AV G)) W) : Sh (List (AV G)) (V × W) where
  enc v := s.enc v.1 :: t.enc v.2
  dec | a :: r => (match s.dec a, t.dec r with | some x, some y => some (x, y) | _, _ => none) | _ => none
  ok a v h := by
    cases a with
    | nil => cases h
    | cons a r =>
      simp only [] at h
      split at h
      · rename_i x y h1 h2
        simp only [Option.some.injEq] at h
        subst h
        rw [s.ok _ _ h1, t.ok _ _ h2]
      · cases h
def Sh.agg {V : Type} (s : Sh (List (AV G)) V) : Sh (AV G) V where
  enc v := .agg (s.enc v)
  dec | .agg cs => s.dec cs | _ => none
  ok a v h := by
    cases a with
    | agg cs => simp only [] at h; rw [s.ok _ _ h]
    | _ => cases h
def Sh.tup {V : Type} (s : Sh (List (AV G)) V) : Sh (AV G) V where
  enc v := .tup (s.enc v)
  dec | .tup cs => s.dec cs | _ => none
  ok a v h := by
    cases a with
    | tup cs => simp only [] at h; rw [s.ok _ _ h]
    | _ => cases h
def Sh.fn {V W : Type} (f : Fn) (s : Sh (List (AV G)) V) (t : Sh (List (AV G)) W) : Sh (AV G) (V × W) where
  enc v := .fnv f (s.enc v.1) (t.enc v.2)
  dec | .fnv f' cs ds => (match decide (f' = f), s.dec cs, t.dec ds with | true, some x, some y => some (x, y) | _, _, _ => none) | _ => none
  ok a v h := by
    cases a with
    | fnv f' cs ds =>
      simp only [] at h
      split at h
      · rename_i x y h0 h1 h2
        simp only [Option.some.injEq] at h
        subst h
        simp only [decide_eq_true_eq] at h0
        rw [s.ok _ _ h1, t.ok _ _ h2, h0]
      · cases h
    | _ => cases h

def Sh.fst {α V : Type} (s : Sh α (V × Unit)) : Sh α V where
  enc v := s.enc (v, ())
  dec a := match s.dec a with | some v => some v.1 | none => none
  ok a v h := by
    split at h
    · rename_i x h1
      simp only [Option.some.injEq] at h
      subst h
      exact s.ok _ _ h1
    · cases h
def Sh.snd {α V : Type} (s : Sh α (Unit × V)) : Sh α V where
  enc v := s.enc ((), v)
  dec a := match s.dec a with | some v => some v.2 | none => none
  ok a v h := by
    split at h
    · rename_i x h1
      simp only [Option.some.injEq] at h
      subst h
      exact s.ok _ _ h1
    · cases h

/-! ### Memory -/
def Blk.rowOf (e : Nat) : Blk G → Option (List (G e))
  | .row e' xs => match h : Nat.beq e' e with | true => some (Nat.eq_of_beq_eq_true h ▸ xs) | false => none
  | _ => none
def Sh.hnil : Sh (List (Nat × Blk G)) Unit where
  enc _ := []
  dec | [] => some () | _ => none
  ok a v h := by cases a <;> simp_all
def Sh.hrow {W : Type} (j e : Nat) (t : Sh (List (Nat × Blk G)) W) : Sh (List (Nat × Blk G)) (List (G e) × W) where
  enc v := (j, .row e v.1) :: t.enc v.2
  dec | (j', b) :: r => (match Nat.beq j' j, b.rowOf e, t.dec r with | true, some x, some y => some (x, y) | _, _, _ => none) | _ => none
  ok a v h := by
    cases a with
    | nil => cases h
    | cons p r =>
      obtain ⟨j', b⟩ := p
      simp only [] at h
      split at h
      · rename_i x y h1 h2 h3
        simp only [Option.some.injEq] at h
        subst h
        rw [t.ok _ _ h3, Nat.eq_of_beq_eq_true h1]
        cases b with
        | row e' xs =>
          simp only [Blk.rowOf] at h2
          split at h2
          · rename_i hk
            have := Nat.eq_of_beq_eq_true hk
            subst this
            simp only [Option.some.injEq] at h2
            rw [← h2]
          · cases h2
        | _ => simp [Blk.rowOf] at h2
      · cases h
def Blk.setOf : Blk G → Option (List Int)
  | .mset ks => some ks
  | _ => none
def Blk.mrowOf (e : Nat) : Blk G → Option (List (Int × G e))
  | .mrow e' xs none => match h : Nat.beq e' e with | true => some (Nat.eq_of_beq_eq_true h ▸ xs) | false => none
  | _ => none
def Sh.hset {W : Type} (j : Nat) (t : Sh (List (Nat × Blk G)) W) : Sh (List (Nat × Blk G)) (List Int × W) where
  enc v := (j, .mset v.1) :: t.enc v.2
  dec | (j', b) :: r => (match Nat.beq j' j, b.setOf, t.dec r with | true, some x, some y => some (x, y) | _, _, _ => none) | _ => none
  ok a v h := by
    cases a with
    | nil => cases h
    | cons p r =>
      obtain ⟨j', b⟩ := p
      simp only [] at h
      split at h
      · rename_i x y h1 h2 h3
        simp only [Option.some.injEq] at h
        subst h
        rw [t.ok _ _ h3, Nat.eq_of_beq_eq_true h1]
        cases b with
        | mset ks =>
          simp only [Blk.setOf, Option.some.injEq] at h2
          rw [h2]
        | _ => simp [Blk.setOf] at h2
      · cases h
def Sh.hmrow {W : Type} (j e : Nat) (t : Sh (List (Nat × Blk G)) W) : Sh (List (Nat × Blk G)) (List (Int × G e) × W) where
  enc v := (j, .mrow e v.1 none) :: t.enc v.2
  dec | (j', b) :: r => (match Nat.beq j' j, b.mrowOf e, t.dec r with | true, some x, some y => some (x, y) | _, _, _ => none) | _ => none
  ok a v h := by
    cases a with
    | nil => cases h
    | cons p r =>
      obtain ⟨j', b⟩ := p
      simp only [] at h
      split at h
      · rename_i x y h1 h2 h3
        simp only [Option.some.injEq] at h
        subst h
        rw [t.ok _ _ h3, Nat.eq_of_beq_eq_true h1]
        cases b with
        | mrow e' xs hole =>
          cases hole with
          | none =>
            simp only [Blk.mrowOf] at h2
            split at h2
            · rename_i hk
              have := Nat.eq_of_beq_eq_true hk
              subst this
              simp only [Option.some.injEq] at h2
              rw [← h2]
            · cases h2
          | some q => simp [Blk.mrowOf] at h2
        | _ => simp [Blk.mrowOf] at h2
      · cases h
def Sh.hfix {V W : Type} (j ty : Nat) (s : Sh (List (AV G)) V) (t : Sh (List (Nat × Blk G)) W) : Sh (List (Nat × Blk G)) (V × W) where
  enc v := (j, .fix ty (s.enc v.1)) :: t.enc v.2
  dec | (j', .fix ty' cs) :: r => (match Nat.beq j' j, Nat.beq ty' ty, s.dec cs, t.dec r with | true, true, some x, some y => some (x, y) | _, _, _, _ => none) | _ => none
  ok a v h := by
    cases a with
    | nil => cases h
    | cons p r =>
      obtain ⟨j', b⟩ := p
      cases b with
      | fix ty' cs =>
        simp only [] at h
        split at h
        · rename_i x y h0 h1 h2 h3
          simp only [Option.some.injEq] at h
          subst h
          rw [t.ok _ _ h3, s.ok _ _ h2, Nat.eq_of_beq_eq_true h0, Nat.eq_of_beq_eq_true h1]
        · cases h
      | _ => cases h

def Sh.hlp {V W : Type} (j key : Nat) (ls : LS) (s : Sh (List (AV G)) V) (t : Sh (List (Nat × Blk G)) W) : Sh (List (Nat × Blk G)) (V × W) where
  enc v := (j, .lp key ls (s.enc v.1)) :: t.enc v.2
  dec | (j', .lp key' ls' cs) :: r => (match Nat.beq j' j, Nat.beq key' key, lsEq ls' ls, s.dec cs, t.dec r with | true, true, true, some x, some y => some (x, y) | _, _, _, _, _ => none) | _ => none
  ok a v h := by
    cases a with
    | nil => cases h
    | cons p r =>
      obtain ⟨j', b⟩ := p
      cases b with
      | lp key' ls' cs =>
        simp only [] at h
        split at h
        · rename_i x y h0 h1 hl h2 h3
          simp only [Option.some.injEq] at h
          subst h
          rw [t.ok _ _ h3, s.ok _ _ h2, Nat.eq_of_beq_eq_true h0, Nat.eq_of_beq_eq_true h1, lsEq_eq hl]
        · cases h
      | _ => cases h

/-- Values with their memory. -/
structure Pk (G : Nat → Type) (V : Type) where
  enc : V → List (AV G) × List (Nat × Blk G)
  dec : List (AV G) → List (Nat × Blk G) → Option V
  ok : ∀ as hp v, dec as hp = some v → enc v = (as, hp)
def pk {V W : Type} (s : Sh (List (AV G)) V) (t : Sh (List (Nat × Blk G)) W) : Pk G (V × W) where
  enc v := (s.enc v.1, t.enc v.2)
  dec as hp := match s.dec as, t.dec hp with | some x, some y => some (x, y) | _, _ => none
  ok as hp v h := by
    split at h
    · rename_i x y h1 h2
      simp only [Option.some.injEq] at h
      subst h
      rw [s.ok _ _ h1, t.ok _ _ h2]
    · cases h

def Pk.fst {V : Type} (p : Pk G (V × Unit)) : Pk G V where
  enc v := p.enc (v, ())
  dec as hp := match p.dec as hp with | some v => some v.1 | none => none
  ok as hp v h := by
    split at h
    · rename_i x h1
      simp only [Option.some.injEq] at h
      subst h
      exact p.ok _ _ _ h1
    · cases h
def Pk.snd {V : Type} (p : Pk G (Unit × V)) : Pk G V where
  enc v := p.enc ((), v)
  dec as hp := match p.dec as hp with | some v => some v.2 | none => none
  ok as hp v h := by
    split at h
    · rename_i x h1
      simp only [Option.some.injEq] at h
      subst h
      exact p.ok _ _ _ h1
    · cases h

/-! ### What is known -/
def AV.tag : AV G → Nat
  | .any => 0
  | .int _ _ => 1
  | .bool _ => 2
  | .str _ => 3
  | .flt _ => 14
  | .cpx _ _ => 15
  | .nilptr => 4
  | .ptr _ _ => 5
  | .rop _ => 6
  | .nilsl | .osl _ | .ros _ _ | .rosn _ _ | .sub _ _ _ _ | .asl _ _ _ => 7
  | .optr _ _ _ _ | .aptr _ _ _ _ | .oarr _ _ _ _ _ _ => 8
  | .agg _ => 9
  | .tup _ => 10
  | .fnv (.func g) _ _ => 100 + g
  | .fnv _ _ _ => 12
  | .nilfn => 11
  | .yld _ => 13
  | .mapv _ | .romap _ _ => 16
/-- A row of the call's own, told apart from one that is only read. -/
def AV.isOsl : AV G → Bool
  | .osl _ => true
  | _ => false
def sameTags : List (AV G) → List Nat → Bool
  | [], [] => true
  | a :: r, n :: s => match Nat.beq n 17 with
    | true => (match a.isOsl with | true => sameTags r s | false => false)
    | false => match Nat.beq a.tag n with | true => sameTags r s | false => false
  | _, _ => false

structure Known (P : Program) (E : Env G) where
  g : Cal
  tags : List Nat
  q : List (AV G) → Nat → Q G (Eff G)
  ok : ∀ (fc : FC) (bl : Nat → Nat) (sv : Nat → Value) (st : St G) (w : World) (args : List (AV G)) (vals : List Value) (base : Nat) (e : Eff G) (l : List Nat),
    MRel P E fc bl sv st w → Reps (st.cx P E fc bl sv w) args vals → Fresh st base → (q args base).trace st.blk = some (e, l) → CalRes P g vals w (Out P E fc bl sv st w e)
def calEq : Cal → Cal → Bool
  | .fn a, .fn b => Nat.beq a b
  | .yl a, .yl b => Nat.beq a b
  | _, _ => false
theorem calEq_eq {a b : Cal} (h : calEq a b = true) : a = b := by
  cases a <;> cases b <;> simp only [calEq] at h <;> first | (rw [Nat.eq_of_beq_eq_true h]) | cases h
def oracle {P : Program} {E : Env G} : List (Known P E) → Oracle G
  | [], _, _, _ => .fail
  | k :: r, g, args, base => match calEq k.g g with
    | true => (match sameTags args k.tags with | true => k.q args base | false => oracle r g args base)
    | false => oracle r g args base
theorem oracle_ok {P : Program} {E : Env G} (ks : List (Known P E)) : OracleOk P E (oracle ks) := by
  induction ks with
  | nil => intro fc bl sv st w g args vals base e l _ _ _ h; cases h
  | cons k r ih =>
    intro fc bl sv st w g args vals base e l m hr hf h
    unfold oracle at h
    split at h
    · rename_i hg
      obtain rfl := calEq_eq hg
      split at h
      · exact k.ok fc bl sv st w args vals base e l m hr hf h
      · exact ih fc bl sv st w _ args vals base e l m hr hf h
    · exact ih fc bl sv st w _ args vals base e l m hr hf h
/-- Results, of one shape or of several. -/
structure Wk (G : Nat → Type) (W : Type) extends WK G W where
  alts : List (List Pat × (List (AV G) → List (Nat × Blk G) → Option W))
  ok : ∀ k w h, (ret k w).trace h = (k (enc w)).trace h
  dec : ∀ p ∈ alts, ∀ as hp v, p.2 as hp = some v → enc v = (as, hp)
def Wk.one {W : Type} (ps : List Pat) (p : Pk G W) : Wk G W where
  enc := p.enc
  ret k w := k (p.enc w)
  alts := [(ps, p.dec)]
  ok _ _ _ := rfl
  dec q hq := by obtain rfl := List.mem_singleton.1 hq; exact p.ok
def Wk.alt {A B : Type} (p : Wk G A) (q : Wk G B) : Wk G (A ⊕ B) where
  enc w := match w with | .inl a => p.enc a | .inr b => q.enc b
  ret k w := .alt A B w (p.ret k) (q.ret k)
  alts := p.alts.map (fun x => (x.1, fun as hp => match x.2 as hp with | some v => some (.inl v) | none => none)) ++ q.alts.map (fun x => (x.1, fun as hp => match x.2 as hp with | some v => some (.inr v) | none => none))
  ok k w h := by cases w with | inl a => exact p.ok k a h | inr b => exact q.ok k b h
  dec x hx as hp v hv := by
    rcases List.mem_append.1 hx with hx | hx
    · obtain ⟨y, hy, rfl⟩ := List.mem_map.1 hx
      simp only [] at hv
      split at hv
      · rename_i u hu; obtain rfl := Option.some.inj hv; exact p.dec y hy as hp u hu
      · cases hv
    · obtain ⟨y, hy, rfl⟩ := List.mem_map.1 hx
      simp only [] at hv
      split at hv
      · rename_i u hu; obtain rfl := Option.some.inj hv; exact q.dec y hy as hp u hu
      · cases hv
theorem callW_trace {P : Program} {E : Env G} {V W : Type} {ps : List Pat} {dec : List (AV G) → List (Nat × Blk G) → Option V} {f : V → Option W} (t : Wk G W) {args : List (AV G)} {base : Nat} {h : Nat → Option (Blk G)} :
    (callW P E ps dec f t.toWK args base).trace h = (callQ P E ps dec f t.enc args base).trace h := by
  unfold callW callQ
  rw [Q.trace_bind, Q.trace_bind]
  congr 1
  funext r
  congr 1
  split
  · simp only [Q.trace]
    congr 1
    funext w
    exact t.ok _ w h
  · rfl
def Known.of {P : Program} {E : Env G} (hE : EnvOk P E) {g : FuncId} {V W : Type} (tags : List Nat) (ps : List Pat) (pv : Pk G V) (f : V → Option W) (pw : Wk G W) (hF : FnOk P E g pv.enc f pw.enc) : Known P E where
  g := .fn g
  tags := tags
  q := callW P E ps pv.dec f pw.toWK
  ok fc bl sv st w args vals base e l m hr hf h := callQ_ok hE hF pv.ok m hr hf (by rw [← callW_trace]; exact h)

def Known.ofR {P : Program} {E : Env G} (hE : EnvOk P E) {key : Nat} {V W : Type} (tags : List Nat) (ps : List Pat) (pv : Pk G V) (f : V → Option W) (pw : Wk G W) (hF : CalOk P E (.yl key) pv.enc f pw.enc) : Known P E where
  g := .yl key
  tags := tags
  q := callW P E ps pv.dec f pw.toWK
  ok fc bl sv st w args vals base e l m hr hf h := callQ_ok hE hF pv.ok m hr hf (by rw [← callW_trace]; exact h)

theorem zero_law {P : Program} {e : Nat} {cs : List (AV G)} (h : zeroOf P e = some cs) (h1 : cs.all AV.one = true) {i : TypeInfo} {z : Value} (hi : P.info? e = some i) (hz : i.zero = some z) (c : Cx G) : Reps c cs z.cells.toList := by
  unfold zeroOf at h
  rw [hi] at h
  simp only [hz, Option.map_some, Option.some.injEq] at h
  subst h
  exact (Rep.ofV 2 z).cells h1
theorem FnOk.congr {P : Program} {E : Env G} {g : FuncId} {V W : Type} {encV : V → List (AV G) × List (Nat × Blk G)} {f f' : V → Option W} {encW : W → List (AV G) × List (Nat × Blk G)} (h : FnOk P E g encV f encW) (he : ∀ v r, f' v = some r → f v = some r) : FnOk P E g encV f' encW :=
  fun v r hv => h v r (he v r hv)

/-- A function of one row that asks whether the row is nil: both ways. -/
theorem FnOk.split {P : Program} {E : Env G} {g : FuncId} {W : Type} {e : Nat} {f : List (G e) → Option W} {f1 : Unit → Option W} {f2 : List (G e) → Option W} {encW : W → List (AV G) × List (Nat × Blk G)}
    (h1 : FnOk P E g (fun _ : Unit => ([.nilsl], [])) f1 encW) (h2 : FnOk P E g (fun xs => ([.rosn e xs], [])) f2 encW) (e1 : ∀ r, f [] = some r → f1 () = some r) (e2 : ∀ xs r, f xs = some r → f2 xs = some r) :
    FnOk P E g (fun xs => ([.ros e xs], [])) f encW := by
  intro xs r hv fc bl sv w vals hw han m hr hlt
  obtain ⟨v, vs', rfl, hrep, h0⟩ := hr.cons_inv
  obtain rfl := h0.nil_inv
  have no : ∀ j, ¬ (lk ([] : List (Nat × Blk G)) j).isSome = true := fun j h => by simp [lk] at h
  have nil : v = .slice none 0 0 → xs = [] → CallRes P g [v].toArray w fun rv w' => ∃ bl' sv', MRel P E fc bl' sv' (hst (encW r).2) w' ∧ Rep ((hst (encW r).2).cx P E fc bl' sv' w') (resAV (encW r).1) rv ∧
      ∀ j, (lk ([] : List (Nat × Blk G)) j).isSome = true → (lk (encW r).2 j).isSome = true → bl' j = bl j ∧ sv' j = sv j := by
    intro hv0 hx
    subst hx
    subst hv0
    exact h1 () r (e1 r hv) fc bl sv w _ hw han m (Reps.cons .nilsl (Reps.nil _)) fun j h => absurd h (no j)
  have non : Rep ((hst []).cx P E fc bl sv w) (.rosn e xs) v → CallRes P g [v].toArray w fun rv w' => ∃ bl' sv', MRel P E fc bl' sv' (hst (encW r).2) w' ∧ Rep ((hst (encW r).2).cx P E fc bl' sv' w') (resAV (encW r).1) rv ∧
      ∀ j, (lk ([] : List (Nat × Blk G)) j).isSome = true → (lk (encW r).2 j).isSome = true → bl' j = bl j ∧ sv' j = sv j := fun hn =>
    h2 xs r (e2 xs r hv) fc bl sv w _ hw han m (Reps.cons hn (Reps.nil _)) fun j h => absurd h (no j)
  cases hrep with
  | ros0 e A cap hA =>
    cases A with
    | none => obtain rfl := hA rfl; exact nil rfl rfl
    | some a => exact non (.rosn0 e a cap)
  | ros e xs b off cap sz us hsz hb ho hc hl hq hcap => exact non (.rosn e xs _ cap (.ros e xs b off cap sz us hsz hb ho hc hl hq hcap))

theorem finA_inv {P : Program} {E : Env G} {R : Type} {rs : List ResultVar} {st : St G} {v : R} : ∀ {fs : List (List Pat)} {l : List (List Pat × (List (AV G) → List (Nat × Blk G) → Option R))}, finA P E rs fs l st = some v → ∃ f ∈ fs, ∃ p ∈ l, finK P E rs p.1 f p.2 st = some v := by
  intro fs
  induction fs with
  | nil => intro l h; cases h
  | cons f fs ih =>
    intro l h
    cases l with
    | nil => cases h
    | cons p r =>
      simp only [finA] at h
      split at h
      · rename_i u hu; obtain rfl := Option.some.inj h; exact ⟨f, by simp, p, by simp, hu⟩
      · obtain ⟨g, hg, q, hq, hh⟩ := ih h; exact ⟨g, by simp [hg], q, by simp [hq], hh⟩
theorem finF_inv {P : Program} {E : Env G} {R : Type} {rs : List ResultVar} {fs : List (List Pat)} {st : St G} {v : R} {l : List (List Pat × (List (AV G) → List (Nat × Blk G) → Option R))} {j : Option Code} (h : finF P E rs fs l j st = some v) : (j = none ∨ j = some .ret) ∧ ∃ f ∈ fs, ∃ p ∈ l, finK P E rs p.1 f p.2 st = some v := by
  unfold finF at h
  split at h
  · exact ⟨.inl rfl, finA_inv h⟩
  · exact ⟨.inr rfl, finA_inv h⟩
  · cases h
/-- A function known, with checks that the kernel makes. -/
theorem fn_known {P : Program} {E : Env G} {C : Oracle G} {g : FuncId} {fn : Func} {c : Code} (hfn : P.funcs[g]? = some fn) (hname : (fn.name == "runtime.NumGoroutine") = false) (hbody : fn.body = some c) (hE : EnvOk P E) (hC : OracleOk P E C) (hmix : P.follows .mixedOrders = true)
    {V W : Type} (pv : Pk G V) (f : V → Option W) (pw : Wk G W) (foot : List Pat) (foots : List (List Pat)) (hfoots : (foots.all fun f => footEq f foot) = true) (cuts : List Nat) (N : Nat) (L : Nat → Nat → St G → Option W)
    (huniq : nodupB ((cutsC c []).map (·.1)) = true)
    (hL : ∀ id ∈ cuts, CutOk P E C false g fn.ntmps cuts (finF P E fn.results.toList foots pw.alts) N (cutsC c []) foot L id)
    (hN : ∀ v r, f v = some r → ∃ k, ev P E C fn.ntmps (fun i => mem i cuts) (L k) (finF P E fn.results.toList foots pw.alts) N [.code c] (argSt (pv.enc v)) = some r)
    (hargs : ∀ v, Nat.ble (pv.enc v).1.length fn.ntmps = true) (hfoot : ∀ v, (foot.all fun p => (lk (pv.enc v).2 (footN p)).isSome) = true)
    (hout : ∀ v r, ((pv.enc v).2.all fun p => match (lk (pw.enc r).2 p.1).isSome with | true => mem p.1 (foot.map footN) | false => true) = true) : FnOk P E g pv.enc f pw.enc :=
  fn_ok hfn hname hbody hE hC hmix (fin := finF P E fn.results.toList foots pw.alts) (fun j st r h => by
    obtain ⟨hj, f, hf, p, hp, h1⟩ := finF_inv h
    exact ⟨hj, f, p.1, p.2, List.all_eq_true.1 hfoots f hf, h1, pw.dec p hp⟩) huniq hL hN (fun v => Nat.le_of_ble_eq_true (hargs v)) (fun v p hp => List.all_eq_true.1 (hfoot v) p hp) (by
    intro v r j h1 h2
    obtain ⟨b, hb⟩ := Option.isSome_iff_exists.1 h1
    have := List.all_eq_true.1 (hout v r) _ (lk_mem hb)
    simp only [h2] at this
    obtain ⟨p, hp, rfl⟩ := List.mem_map.1 (mem_of_mem.1 this)
    exact ⟨p, hp, rfl⟩)
theorem finB_inv {P : Program} {R : Type} {st : St G} {v : R} {j : Option Code} : ∀ {fs : List (List Pat)} {l : List (List Pat × (List (AV G) → List (Nat × Blk G) → Option R))}, finB P fs l j st = some v → ∃ f ∈ fs, ∃ p ∈ l, ∃ key cs, st.blk 0 = some (.lp key .busy cs) ∧ tellK P p.1 f p.2 some (.ret [.bool j.isNone]) ({ st with heap := (0, .lp key (endLS j) cs) :: st.heap } : St G).blk = some v := by
  intro fs
  induction fs with
  | nil => intro l h; cases h
  | cons f fs ih =>
    intro l h
    cases l with
    | nil => cases h
    | cons p r =>
      simp only [finB] at h
      split at h
      · rename_i key cs hid
        split at h
        · rename_i u hu; obtain rfl := Option.some.inj h; exact ⟨f, by simp, p, by simp, key, cs, hid, hu⟩
        · obtain ⟨g, hg, q, hq, hh⟩ := ih h; exact ⟨g, by simp [hg], q, by simp [hq], hh⟩
      · cases h
/-- What a round is given. -/
def rndArgs (key n nt : Nat) (e : List (AV G) × List (Nat × Blk G)) : Bool := match e.1, lk e.2 0 with
  | .yld 0 :: args, some (.lp key' _ cs) => Nat.beq args.length n && (Nat.beq key' key && Nat.beq cs.length nt)
  | _, _ => false
/-- A round known, with checks that the kernel makes. -/
theorem round_known {P : Program} {E : Env G} {C : Oracle G} {key : Nat} {ps : Array Tmp} {aa bb : Code} (hsite : siteOf P key = some (ps, aa, bb)) (hE : EnvOk P E) (hC : OracleOk P E C) (hmix : P.follows .mixedOrders = true) (nt : Nat)
    {V W : Type} (pv : Pk G V) (f : V → Option W) (pw : Wk G W) (foot : List Pat) (foots : List (List Pat)) (hfoots : (foots.all fun f => footEq f foot) = true) (cuts : List Nat) (N : Nat) (L : Nat → Nat → St G → Option W)
    (huniq : nodupB ((cutsR aa bb).map (·.1)) = true)
    (hL : ∀ id ∈ cuts, CutOk P E C true (key / 1024) nt cuts (finB P foots pw.alts) N (cutsR aa bb) foot L id)
    (hN : ∀ v r, f v = some r → ∃ k, ev P E C nt (fun i => mem i cuts) (L k) (finB P foots pw.alts) N [.code aa, .beginRound, .code bb] (rndSt ps.toList (pv.enc v)) = some r)
    (hargs : ∀ v, rndArgs key ps.size nt (pv.enc v) = true) (hzero : mem 0 (foot.map footN) = true) (hfoot : ∀ v, (foot.all fun p => (lk (pv.enc v).2 (footN p)).isSome) = true)
    (hout : ∀ v r, ((pv.enc v).2.all fun p => match (lk (pw.enc r).2 p.1).isSome with | true => mem p.1 (foot.map footN) | false => true) = true) : CalOk P E (.yl key) pv.enc f pw.enc :=
  round_ok hsite hE hC hmix (fin := finB P foots pw.alts) (fun j st r h => by
    obtain ⟨f, hf, p, hp, key', cs, h1, h2⟩ := finB_inv h
    exact ⟨key', cs, f, p.1, p.2, List.all_eq_true.1 hfoots f hf, h1, h2, pw.dec p hp⟩) huniq hL hN (fun v => by
    have := hargs v
    unfold rndArgs at this
    split at this
    · rename_i args key' ls cs e1 e2
      simp only [Bool.and_eq_true] at this
      exact ⟨args, cs, ls, e1, Nat.eq_of_beq_eq_true this.1, by rw [e2, Nat.eq_of_beq_eq_true this.2.1], Nat.eq_of_beq_eq_true this.2.2⟩
    · cases this) (by
    obtain ⟨p, hp, h⟩ := List.mem_map.1 (mem_of_mem.1 hzero)
    exact ⟨p, hp, h⟩) (fun v p hp => List.all_eq_true.1 (hfoot v) p hp) (by
    intro v r j h1 h2
    obtain ⟨b, hb⟩ := Option.isSome_iff_exists.1 h1
    have := List.all_eq_true.1 (hout v r) _ (lk_mem hb)
    simp only [h2] at this
    obtain ⟨p, hp, rfl⟩ := List.mem_map.1 (mem_of_mem.1 this)
    exact ⟨p, hp, rfl⟩)
end Go.Proofs.Ytemdppcnhlnicaa.Ev
