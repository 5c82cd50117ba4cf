/- The evaluator: plain definitions alone. What the model's code does to values that are told by terms, an operation at a time. -/
import Derived.WalkKit
import Derived.Test.YtemdppcnhlnicaaEvZ
import Derived.Below
import Derived.KernelRfl
import Derived.Laws.CopyRow
import Derived.Laws.Tables
import Derived.Laws.AppendOwn
import Derived.Laws.Cells
import Derived.ChangeKeysEq
namespace Go.Proofs.Ytemdppcnhlnicaa.Ev
open Go

/-- Values as they are told. -/
inductive AV (G : Nat → Type) : Type where
  | any
  | int (k : IntKind) (n : Int)
  | bool (b : Bool)
  | str (s : ByteArray)
  | flt (n : Int)
  | cpx (a b : Int)
  | nilptr
  | ptr (id off : Nat)
  | rop (cs : List (AV G))
  | nilsl
  | osl (id : Nat)
  | ros (e : Nat) (xs : List (G e))
  | rosn (e : Nat) (xs : List (G e))
  | optr (id i sz off : Nat)
  | aptr (id off len i : Nat)
  | oarr (id i sz off len j : Nat)
  | sub (id sz lo n : Nat)
  | asl (id off n : Nat)
  | agg (cs : List (AV G))
  | tup (cs : List (AV G))
  | fnv (f : Fn) (first cap : List (AV G))
  | nilfn
  | yld (id : Nat)
  | mapv (id : Nat)
  | romap (e : Nat) (xs : List (Int × G e))

/-- How a loop over a function stands: a round may begin; one is under way; one has left by a jump. -/
inductive LS where
  | ready
  | busy
  | done (c : Code)
def lsPend : LS → Option Code
  | .done c => some c
  | _ => none
def lsState : LS → LoopState
  | .ready => .ready
  | .busy => .busy
  | .done _ => .done
def jmpEq : Code → Code → Bool
  | .ret, .ret => true
  | .exit a, .exit b => Nat.beq a b
  | .goto a, .goto b => Nat.beq a b
  | _, _ => false
def isJmp : Code → Bool
  | .ret => true
  | .exit _ => true
  | .goto _ => true
  | _ => false
def lsEq : LS → LS → Bool
  | .ready, .ready => true
  | .busy, .busy => true
  | .done a, .done b => jmpEq a b
  | _, _ => false
theorem lsEq_eq {a b : LS} (h : lsEq a b = true) : a = b := by
  cases a <;> cases b <;> simp only [lsEq] at h <;> first | rfl | (cases h) | skip
  rename_i c d
  cases c <;> cases d <;> simp only [jmpEq] at h <;> first | rfl | (cases h) | (rw [Nat.eq_of_beq_eq_true h])
/-- The first region's number. -/
def keyC : Code → Option Nat
  | .region id _ _ => some id
  | .seq a b => (keyC a).or (keyC b)
  | .cond _ a b => (keyC a).or (keyC b)
  | .block _ c | .loop c | .scope c => keyC c
  | .rangeFunc _ _ a b => (keyC a).or (keyC b)
  | _ => none
def keyOf (as bd : Code) : Nat := ((keyC bd).or (keyC as)).getD 999

inductive Blk (G : Nat → Type) : Type where
  | lp (key : Nat) (ls : LS) (cs : List (AV G))
  | fix (t : Nat) (cs : List (AV G))
  | row (e : Nat) (xs : List (G e))
  | dead
  | mset (ks : List Int)
  | mrow (e : Nat) (xs : List (Int × G e)) (hole : Option (Nat × Nat × Nat))

/-- What is asked of memory, step by step. -/
inductive Q (G : Nat → Type) (α : Type) : Type 1 where
  | ret (a : α)
  | fail
  | ask (id : Nat) (k : Option (Blk G) → Q G α)
  | opt (β : Type) (o : Option β) (k : β → Q G α)
  | alt (β γ : Type) (o : β ⊕ γ) (k1 : β → Q G α) (k2 : γ → Q G α)

variable {G : Nat → Type}

def Q.bind {α β : Type} : Q G α → (α → Q G β) → Q G β
  | .ret a, f => f a
  | .fail, _ => .fail
  | .ask id k, f => .ask id fun b => (k b).bind f
  | .opt γ o k, f => .opt γ o fun x => (k x).bind f
  | .alt γ δ o k1 k2, f => .alt γ δ o (fun x => (k1 x).bind f) (fun x => (k2 x).bind f)

def Q.run {α R : Type} : Q G α → (Nat → Option (Blk G)) → List Nat → (α → List Nat → Option R) → Option R
  | .ret a, _, l, K => K a l
  | .fail, _, _, _ => none
  | .ask id k, h, l, K => (k (h id)).run h (id :: l) K
  | .opt _ o k, h, l, K => o.bind fun x => (k x).run h l K
  | .alt _ _ o k1 k2, h, l, K => match o with | .inl x => (k1 x).run h l K | .inr x => (k2 x).run h l K

def Q.of {α : Type} : Option α → Q G α
  | some a => .ret a
  | none => .fail

/-- A test that must hold. -/
def chk (b : Bool) : Option Unit := match b with | true => some () | false => none
def rdx {α : Type} (xs : List α) (i : Int) : Option α := match decide (0 ≤ i) with | true => xs[i.toNat]? | false => none
def rdb (s : ByteArray) (i : Int) : Option UInt8 := match decide (0 ≤ i) with | true => s[i.toNat]? | false => none
def idx (i : Int) (n : Nat) : Option Nat := match decide (0 ≤ i ∧ i < (n : Int)) with | true => some i.toNat | false => none
def cutx {α : Type} (xs : List α) (lo hi : Int) : Option (List α) := match decide (0 ≤ lo ∧ lo ≤ hi ∧ hi ≤ (xs.length : Int)) with | true => some ((xs.take hi.toNat).drop lo.toNat) | false => none
/-- How elements of rows are told. -/
structure Env (G : Nat → Type) where
  enc : (e : Nat) → G e → List (AV G)
  dec : (e : Nat) → List (AV G) → Option (G e)
  zero : (e : Nat) → Option (G e)
  plain : Nat → Bool
  decX : (e : Nat) → List (AV G) → Option (G e)

def AV.ofV : Nat → Value → AV G
  | 0, _ => .any
  | d + 1, v => match v with
    | .int k n => .int k n
    | .bool b => .bool b
    | .string s => .str s
    | .float .f64 b => match fint b with | some n => .flt n | none => .any
    | .complex .f64 b c => match fint b, fint c with | some m, some n => .cpx m n | _, _ => .any
    | .pointer none => .nilptr
    | .slice none 0 0 => .nilsl
    | .nilFunc => .nilfn
    | .agg cs => .agg (cs.toList.map (AV.ofV d))
    | .tuple cs => .tup (cs.toList.map (AV.ofV d))
    | _ => .any
/-- Surely one cell. -/
def AV.one : AV G → Bool
  | .any | .agg _ | .tup _ => false
  | _ => true
def AV.cells : AV G → List (AV G)
  | .agg cs => cs
  | v => [v]

def lk {β : Type} : List (Nat × β) → Nat → Option β
  | [], _ => none
  | (a, b) :: r, x => match Nat.beq a x with | true => some b | false => lk r x

structure St (G : Nat → Type) where
  tmps : List (Nat × AV G)
  heap : List (Nat × Blk G)
  next : Nat

def St.get (s : St G) (d : Nat) : AV G := (lk s.tmps d).getD .any
def St.put (s : St G) (d : Option Nat) (v : AV G) : St G := match d with | some d => { s with tmps := (d, v) :: s.tmps } | none => s
def St.blk (s : St G) (id : Nat) : Option (Blk G) := lk s.heap id
def St.eval (s : St G) : Operand → AV G
  | .tmp t => s.get t
  | .const v => AV.ofV 3 v
  | .global _ => .any
  | .func f => .fnv (.func f) [] []

structure Eff (G : Nat → Type) where
  res : AV G
  upd : List (Nat × Blk G)

def ins {β : Type} : List (Nat × β) → List (Nat × β) → List (Nat × β)
  | [], h => h
  | (a, b) :: r, h => (a, b) :: ins r h
def St.upd (st : St G) (u : List (Nat × Blk G)) : St G := { st with heap := ins u st.heap }
def St.app (s : St G) (d : Option Nat) (e : Eff G) : St G := { s.put d e.res with heap := ins e.upd s.heap }

/-- What is called: a function; a round of a loop. -/
inductive Cal where
  | fn (g : FuncId)
  | yl (key : Nat)
abbrev Oracle (G : Nat → Type) := Cal → List (AV G) → Nat → Q G (Eff G)

section ops
variable (P : Program) (E : Env G) (C : Oracle G)

def sizeOf? (t : Nat) : Option Nat := (P.info? t).map (·.size)
def agg? (t : Nat) : Option Bool := match P.underlying t with
  | some (.struct _) | some (.array _ _) => some true
  | some _ => some false
  | none => none
def splice (cs : List (AV G)) (off : Nat) (ys : List (AV G)) : List (AV G) := cs.take off ++ ys ++ cs.drop (off + ys.length)
/-- A variable of type t out of cells from 'off' on. -/
def partOf (t : Nat) (cs : List (AV G)) (off : Nat) : Option (AV G) :=
  match agg? P t, sizeOf? P t with
  | some true, some n => match Nat.ble (off + n) cs.length with | true => some (.agg ((cs.drop off).take n)) | false => none
  | some false, some _ => cs[off]?
  | _, _ => none
def pureE (v : AV G) : Q G (Eff G) := .ret ⟨v, []⟩
def ofO (o : Option (AV G)) : Q G (Eff G) := match o with | some v => pureE v | none => .fail

/-- Whole numbers of one kind, cell by cell. -/
def intsOf (k : IntKind) : List (AV G) → Option (List Int)
  | [] => some []
  | .int k' n :: r => match decide (k' = k), intsOf k r with | true, some l => some (n :: l) | _, _ => none
  | _ => none
def setInts (k : IntKind) (i : Nat) (v : Int) : Nat → List Int → List (AV G)
  | _, [] => []
  | j, x :: r => .int k (if i = j then v else x) :: setInts k i v (j + 1) r
def intKind? (t : Nat) : Option IntKind := match P.underlying t with | some (.int k) => some k | _ => none
def sizeIs (e sz : Nat) : Bool := match sizeOf? P e with | some n => Nat.beq n sz | none => false

/-- Elements from a place on, one by one. -/
def getsQ {α β : Type} (xs : List β) : Nat → Nat → (List β → Q G α) → Q G α
  | 0, _, k => k []
  | n + 1, i, k => .opt _ (xs[i]?) fun x => getsQ xs n (i + 1) fun ys => k (x :: ys)
/-- Is t an array of e's, looked at as a whole? -/
def arrOf? (t e off sz : Nat) : Option Nat := match P.underlying t, off, sizeOf? P t with
  | some (.array len el), 0, some n => match Nat.beq el e, Nat.ble 1 len, Nat.beq n (len * sz) with | true, true, true => some len | _, _, _ => none
  | _, _, _ => none

def loadQ (t : Nat) (x : AV G) : Q G (Eff G) := match x with
  | .ptr id off => .ask id fun b => match b with | some (.fix _ cs) => ofO (partOf P t cs off) | _ => .fail
  | .rop cs => ofO (partOf P t cs 0)
  | .optr id i sz off => .ask id fun b => match b with
    | some (.row e xs) => match sizeIs P e sz with
      | true => match arrOf? P t e off sz with
        | some len => getsQ xs len i fun ys => pureE (.agg (ys.flatMap (E.enc e)))
        | none => .opt _ (xs[i]?) fun x => ofO (partOf P t (E.enc e x) off)
      | false => .fail
    | _ => .fail
  | .oarr id i sz off len j => .ask id fun b => match b, intKind? P t, sizeOf? P t with
    | some (.row e xs), some k, some 1 => match sizeIs P e sz with
      | true => .opt _ (xs[i]?) fun x => match intsOf k (((E.enc e x).drop off).take len), Nat.ble (off + len) (E.enc e x).length with
        | some ns, true => pureE (.int k (ns.getD j 0))
        | _, _ => .fail
      | false => .fail
    | _, _, _ => .fail
  | .aptr id off len i => .ask id fun b => match b, intKind? P t, sizeOf? P t with
    | some (.fix _ cs), some k, some 1 => match intsOf k ((cs.drop off).take len), Nat.ble (off + len) cs.length with
      | some xs, true => pureE (.int k (xs.getD i 0))
      | _, _ => .fail
    | _, _, _ => .fail
  | _ => .fail
def storeQ (t : Nat) (x y : AV G) : Q G (Eff G) := match x with
  | .ptr id off => .ask id fun b => match b, sizeOf? P t with
    | some (.fix u cs), some n => match Nat.beq y.cells.length n, Nat.ble (off + n) cs.length, y.cells.all AV.one with
      | true, true, true => .ret ⟨.any, [(id, .fix u (splice cs off y.cells))]⟩
      | _, _, _ => .fail
    | _, _ => .fail
  | .optr id i sz off => .ask id fun b => match b, sizeOf? P t with
    | some (.row e xs), some n => match sizeIs P e sz with
      | true => .opt _ (xs[i]?) fun x => match Nat.beq y.cells.length n, Nat.ble (off + n) (E.enc e x).length, y.cells.all AV.one, E.dec e (splice (E.enc e x) off y.cells) with
        | true, true, true, some x' => .ret ⟨.any, [(id, .row e (xs.set i x'))]⟩
        | _, _, _, _ => .fail
      | false => .fail
    | _, _ => .fail
  | .oarr id i sz off len j => .ask id fun b => match b, intKind? P t, sizeOf? P t, y with
    | some (.row e xs), some k, some 1, .int k' v => match sizeIs P e sz, decide (k' = k) with
      | true, true => .opt _ (xs[i]?) fun x => match intsOf k (((E.enc e x).drop off).take len), Nat.ble (off + len) (E.enc e x).length with
        | some ns, true => match E.dec e ((E.enc e x).take off ++ (setInts k j v 0 ns ++ (E.enc e x).drop (off + len))) with
          | some x' => .ret ⟨.any, [(id, .row e (xs.set i x'))]⟩
          | none => .fail
        | _, _ => .fail
      | _, _ => .fail
    | _, _, _, _ => .fail
  | .aptr id off len i => .ask id fun b => match b, intKind? P t, sizeOf? P t, y with
    | some (.fix u cs), some k, some 1, .int k' v => match decide (k' = k), intsOf k ((cs.drop off).take len), Nat.ble (off + len) cs.length with
      | true, some xs, true => .ret ⟨.any, [(id, .fix u (cs.take off ++ (setInts k i v 0 xs ++ cs.drop (off + len))))]⟩
      | _, _, _ => .fail
    | _, _, _, _ => .fail
  | _ => .fail
def fieldQ (s : Nat) (x : AV G) (f : Nat) : Q G (Eff G) := match P.underlying s with
  | some (.struct fs) => match fs[f]? with
    | some fd => match sizeOf? P fd.type with
      | some (_ + 1) => match x with
        | .ptr id off => pureE (.ptr id (off + fd.offset))
        | .rop cs => pureE (.rop (cs.drop fd.offset))
        | .optr id i sz off => pureE (.optr id i sz (off + fd.offset))
        | _ => .fail
      | _ => .fail
    | none => .fail
  | _ => .fail
def fieldVQ (s : Nat) (x : AV G) (f : Nat) : Q G (Eff G) := match P.underlying s, x with
  | some (.struct fs), .agg cs => match fs[f]? with
    | some fd => ofO (partOf P fd.type cs fd.offset)
    | none => .fail
  | _, _ => .fail
def indexAddrQ (t : Nat) (x i : AV G) : Q G (Eff G) := match P.underlying t, i with
  | some (.slice el), .int _ n => match x with
    | .ros e xs => match Nat.beq e el with
      | true => .opt _ (rdx xs n) fun x => pureE (.rop (E.enc e x))
      | false => .fail
    | .osl id => match sizeOf? P el with
      | some sz => .ask id fun b => match b with
        | some (.row e xs) => match Nat.beq e el with
          | true => .opt _ (idx n xs.length) fun i => pureE (.optr id i sz 0)
          | false => .fail
        | _ => .fail
      | none => .fail
    | .sub id sz lo m => match sizeIs P el sz with
      | true => .opt _ (idx n m) fun i => pureE (.optr id (lo + i) sz 0)
      | false => .fail
    | _ => .fail
  | some (.array len el), .int _ n => match sizeOf? P el with
    | some (sz + 1) => match x with
      | .ptr id off => .opt _ (idx n len) fun i => match intKind? P el, sz with
        | some _, 0 => pureE (.aptr id off len i)
        | _, _ => pureE (.ptr id (off + i * (sz + 1)))
      | .optr id i0 szr off => .opt _ (idx n len) fun i => match intKind? P el, sz with
        | some _, 0 => pureE (.oarr id i0 szr off len i)
        | _, _ => pureE (.optr id i0 szr (off + i * (sz + 1)))
      | .rop cs => .opt _ (idx n len) fun i => match intKind? P el, sz with
        | some k, 0 => match intsOf k (cs.take len), Nat.ble len cs.length with
          | some xs, true => pureE (.rop [.int k (xs.getD i 0)])
          | _, _ => .fail
        | _, _ => pureE (.rop (cs.drop (i * (sz + 1))))
      | _ => .fail
    | _ => .fail
  | _, _ => .fail
def indexVQ (t : Nat) (x i : AV G) : Q G (Eff G) := match P.underlying t, x, i with
  | some (.array len el), .agg cs, .int _ n => match sizeOf? P el with
    | some sz => .opt _ (idx n len) fun i => match intKind? P el, sz with
      | some k, 1 => match intsOf k cs, Nat.beq cs.length len with
        | some xs, true => pureE (.int k (xs.getD i 0))
        | _, _ => .fail
      | _, _ => ofO (partOf P el cs (i * sz))
    | none => .fail
  | some .string, .str s, .int _ n => .opt _ (rdb s n) fun b => pureE (.int .u8 (b.toNat : Int))
  | _, _, _ => .fail
def isBool (t : Nat) : Bool := match P.underlying t with | some .bool => true | _ => false
def isPtr (t : Nat) : Bool := match P.underlying t with | some (.pointer _) => true | _ => false
def isSl (t : Nat) : Bool := match P.underlying t with | some (.slice _) => true | _ => false
/-- '==' told, or '!='. -/
def eqNe (op : BinOp) (b : Bool) : Q G (Eff G) := match op with
  | .eql => pureE (.bool b)
  | .neq => pureE (.bool (!b))
  | _ => .fail
/-- Are values of type t the same? -/
def eqFs (f : Nat → AV G → AV G → Option Bool) (xs ys : List (AV G)) : List Field → Option Bool
  | [] => some true
  | fd :: r => match decide (fd.name = "_"), partOf P fd.type xs fd.offset, partOf P fd.type ys fd.offset with
    | false, some a, some b => match f fd.type a b, eqFs f xs ys r with
      | some p, some q => some (p && q)
      | _, _ => none
    | _, _, _ => none
def eqIs (f : AV G → AV G → Option Bool) (e sz : Nat) (xs ys : List (AV G)) : List Nat → Option Bool
  | [] => some true
  | i :: r => match partOf P e xs (i * sz), partOf P e ys (i * sz) with
    | some a, some b => match f a b, eqIs f e sz xs ys r with
      | some p, some q => some (p && q)
      | _, _ => none
    | _, _ => none
def eqA : Nat → Nat → AV G → AV G → Option Bool
  | 0, _, _, _ => none
  | d + 1, t, x, y => match P.underlying t, x, y with
    | some .bool, .bool a, .bool b => some (a == b)
    | some (.int _), .int k a, .int k' b => match decide (k = k') with | true => some (a == b) | false => none
    | some .string, .str a, .str b => some (a == b)
    | some (.struct fs), .agg xs, .agg ys => match P.stoodInHeld t with
      | false => eqFs P (eqA d) xs ys fs.toList
      | true => none
    | some (.array len e), .agg xs, .agg ys => match sizeOf? P e with
      | some sz => eqIs P (eqA d e) e sz xs ys (List.range len)
      | none => none
    | _, _, _ => none
def someSl (x : AV G) : Q G (Option Bool) := match x with
  | .ros _ xs => .ret (some (decide (xs.length ≠ 0)))
  | .osl id => .ask id fun b => match b with | some (.row _ xs) => .ret (some (decide (xs.length ≠ 0))) | _ => .ret none
  | .sub _ _ _ n => .ret (some (decide (n ≠ 0)))
  | _ => .ret none
def binQ (op : BinOp) (t : Nat) (x y : AV G) : Q G (Eff G) := match x, y with
  | .int k a, .int k' b => match op with
    | .shl => .opt _ (chk (decide (0 ≤ b))) fun _ => pureE (.int k (k.wrap (a * 2 ^ min b.toNat k.bits)))
    | .shr => .opt _ (chk (decide (0 ≤ b))) fun _ => pureE (.int k (a.fdiv (2 ^ min b.toNat k.bits)))
    | _ => match decide (k = k') with
      | false => .fail
      | true => match op with
        | .add => pureE (.int k (k.wrap (a + b)))
        | .sub => pureE (.int k (k.wrap (a - b)))
        | .mul => pureE (.int k (k.wrap (a * b)))
        | .quo => .opt _ (chk (b != 0)) fun _ => pureE (.int k (k.wrap (a.tdiv b)))
        | .rem => .opt _ (chk (b != 0)) fun _ => pureE (.int k (a.tmod b))
        | .and => pureE (.int k (bits .and k a b))
        | .or => pureE (.int k (bits .or k a b))
        | .xor => pureE (.int k (bits .xor k a b))
        | .andNot => pureE (.int k (bits .andNot k a b))
        | .eql => pureE (.bool (a == b))
        | .neq => pureE (.bool (a != b))
        | .lss => pureE (.bool (decide (a < b)))
        | .leq => pureE (.bool (decide (a ≤ b)))
        | .gtr => pureE (.bool (decide (a > b)))
        | .geq => pureE (.bool (decide (a ≥ b)))
        | _ => .fail
  | .bool a, .bool b => match isBool P t with | true => eqNe op (a == b) | false => .fail
  | .nilptr, .nilptr => match isPtr P t with | true => eqNe op true | false => .fail
  | .nilsl, .nilsl => match isSl P t with | true => eqNe op true | false => .fail
  | .rosn _ _, .nilsl => match isSl P t with | true => eqNe op false | false => .fail
  | .ptr _ _, .nilptr => match isPtr P t with | true => eqNe op false | false => .fail
  | .nilptr, .ptr _ _ => match isPtr P t with | true => eqNe op false | false => .fail
  | .agg xs, .agg ys => match eqA P 8 t (.agg xs) (.agg ys), P.eqGuardType P.depth t with
    | some b, false => eqNe op b
    | _, _ => .fail
  | .str a, .str b => match P.underlying t with | some .string => eqNe op (a == b) | _ => .fail
  | .cpx a b, .cpx c d => match op with
    | .add => .opt _ (chk (flOk (a + c) && flOk (b + d))) fun _ => pureE (.cpx (a + c) (b + d))
    | .sub => .opt _ (chk (flOk (a - c) && flOk (b - d))) fun _ => pureE (.cpx (a - c) (b - d))
    | _ => .fail
  | x, .nilsl => match isSl P t with
    | true => (someSl x).bind fun o => match o with | some b => .opt _ (chk b) fun _ => eqNe op false | none => .fail
    | false => .fail
  | _, _ => .fail
def unQ (op : UnOp) (x : AV G) : Q G (Eff G) := match op, x with
  | .neg, .int k n => pureE (.int k (k.wrap (0 - n)))
  | .xor, .int k n => pureE (.int k (bits .xor k (if k.signed then -1 else k.max) n))
  | .not, .bool b => pureE (.bool (!b))
  | _, _ => .fail
def convQ (s d : Nat) (x : AV G) : Q G (Eff G) := match P.underlying s, P.underlying d, x with
  | some (.int _), some (.int k), .int _ n => pureE (.int k (k.wrap n))
  | some (.int _), some (.float .f64), .int _ n => .opt _ (chk (flOk n)) fun _ => pureE (.flt n)
  | some (.float _), some (.int k), .flt n => .opt _ (chk (decide (k.min ≤ n ∧ n ≤ k.max))) fun _ => pureE (.int k n)
  | _, _, _ => .fail
def decAll (e : Nat) : List (List (AV G)) → Option (List (G e))
  | [] => some []
  | c :: r => match E.dec e c, decAll e r with | some x, some xs => some (x :: xs) | _, _ => none
def fillA (cells : List (AV G)) : List (Nat × Nat × AV G) → Option (List (AV G))
  | [] => some cells
  | (off, size, v) :: r => match Nat.beq v.cells.length size, Nat.ble (off + size) cells.length, v.cells.all AV.one with
    | true, true, true => fillA (splice cells off v.cells) r
    | _, _, _ => none
def zeroOf (t : Nat) : Option (List (AV G)) := match P.info? t with
  | some i => i.zero.map fun v => (AV.ofV 2 v).cells
  | none => none
def optMap {α β : Type} (f : α → Option β) : List α → Option (List β)
  | [] => some []
  | x :: r => match f x, optMap f r with | some y, some ys => some (y :: ys) | _, _ => none
def buildQ (t : Nat) (parts : List (Nat × AV G)) : Q G (Eff G) := match zeroOf P t with
  | some z => match z.all AV.one with
    | true => match P.underlying t with
      | some (.struct fs) => match fs.toList.mapM (fun f => (P.info? f.type).map fun i => (f.offset, i.size)) with
        | some places => match optMap (fun p : Nat × AV G => (places[p.1]?).map fun q => (q.1, q.2, p.2)) parts with
          | some ps => ofO ((fillA z ps).map .agg)
          | none => .fail
        | none => .fail
      | some (.array _ el) => match P.info? el with
        | some i => ofO ((fillA z (parts.map fun p => (p.1 * i.size, i.size, p.2))).map .agg)
        | none => .fail
      | _ => .fail
    | false => .fail
  | none => .fail
def chunks {α : Type} (sz : Nat) : Nat → List α → List (List α)
  | 0, _ => []
  | n + 1, cs => cs.take sz :: chunks sz n (cs.drop sz)
/-- What a slice holds, as elements of type el. -/
def elemsQ {α : Type} (el : Nat) (x : AV G) (k : List (G el) → Q G α) : Q G α := match x with
  | .nilsl => k []
  | .ros e ys => match h : Nat.beq e el with
    | true => k (Nat.eq_of_beq_eq_true h ▸ ys)
    | false => .fail
  | .rosn e ys => match h : Nat.beq e el with
    | true => k (Nat.eq_of_beq_eq_true h ▸ ys)
    | false => .fail
  | .osl id => .ask id fun b => match b with
    | some (.row e ys) => match h : Nat.beq e el with
      | true => k (Nat.eq_of_beq_eq_true h ▸ ys)
      | false => .fail
    | _ => .fail
  | .sub id sz lo n => .ask id fun b => match b with
    | some (.row e ys) => match h : Nat.beq e el, sizeIs P el sz with
      | true, true => k (((Nat.eq_of_beq_eq_true h ▸ ys).drop lo).take n)
      | _, _ => .fail
    | _ => .fail
  | .asl id off n => .ask id fun b => match b, sizeOf? P el with
    | some (.fix _ cs), some sz => match decAll E el (chunks sz n ((cs.drop off).take (n * sz))), Nat.ble (off + n * sz) cs.length with
      | some ys, true => k ys
      | _, _ => .fail
    | _, _ => .fail
  | _ => .fail
/-- Bytes of a row, as a string's. -/
def byteOf : List (AV G) → Option UInt8
  | [.int .u8 n] => some (UInt8.ofNat n.toNat)
  | _ => none
def strOf {α : Type} (f : α → List (AV G)) : List α → Option (List UInt8)
  | [] => some []
  | x :: r => match byteOf (f x), strOf f r with | some b, some l => some (b :: l) | _, _ => none
def convS (s d : Nat) (x : AV G) : Q G (Eff G) := match P.underlying s, P.underlying d with
  | some (.slice el), some .string => match intKind? P el with
    | some .u8 => elemsQ P E el x fun ys => .opt _ (strOf (E.enc el) ys) fun l => pureE (.str ⟨l.toArray⟩)
    | _ => .fail
  | _, _ => convQ P s d x
/-- A slice's first elements, as an array that is pointed to. -/
def sapQ (t : Nat) (x : AV G) : Q G (Eff G) := match P.underlying t with
  | some (.array len el) => match Nat.ble 1 len with
    | false => .fail
    | true => match x with
      | .ros e xs => match Nat.beq e el with
        | true => getsQ xs len 0 fun ys => pureE (.rop (ys.flatMap (E.enc e)))
        | false => .fail
      | .sub id sz lo m => match sizeIs P el sz with
        | true => .opt _ (chk (decide (len ≤ m))) fun _ => pureE (.optr id lo sz 0)
        | false => .fail
      | .osl id => match sizeOf? P el with
        | some sz => .ask id fun b => match b with
          | some (.row e xs) => match Nat.beq e el with
            | true => .opt _ (chk (decide (len ≤ xs.length))) fun _ => pureE (.optr id 0 sz 0)
            | false => .fail
          | _ => .fail
        | none => .fail
      | _ => .fail
  | _ => .fail
/-- How many bytes an element has, if it has cells. -/
def bytesOf? (el : Nat) : Option Nat := match P.info? el with
  | some i => match i.zero, i.size with
    | some z, n + 1 => match Nat.beq z.cells.size (n + 1), Nat.ble 1 i.bytes with | true, true => some i.bytes | _, _ => none
    | _, _ => none
  | none => none
/-- Rows of the call's own, inside elements, are only read from now on. -/
def frzQ {α : Type} : List (AV G) → (List (AV G) → List Nat → Q G α) → Q G α
  | [], k => k [] []
  | a :: r, k => match a with
    | .osl id => .ask id fun b => match b with
      | some (.row e xs) => frzQ r fun cs ds => k (.ros e xs :: cs) (id :: ds)
      | _ => .fail
    | _ => frzQ r fun cs ds => k (a :: cs) ds
def normR : List (Option Nat) → List (AV G) → List (AV G)
  | some e :: ps, .nilsl :: r => .ros e [] :: normR ps r
  | _ :: ps, a :: r => a :: normR ps r
  | [], r => r
  | _ :: _, [] => []
def buildSliceQ (t len : Nat) (parts : List (Nat × AV G)) (base : Nat) : Q G (Eff G) := match P.underlying t with
  | some (.slice e) => match bytesOf? P e, sizeOf? P e with
    | some _, some sz => match Nat.ble (len * sz) 16777216, fillA (List.replicate (len * sz) .any) (parts.map fun p => (p.1 * sz, sz, p.2)) with
      | true, some cs => frzQ cs fun cs ds => match decAll E e (chunks sz len cs) with
        | some xs => .ret ⟨.osl base, (ds.map fun d => (d, .dead)) ++ [(base, .row e xs)]⟩
        | none => .fail
      | _, _ => .fail
    | _, _ => .fail
  | _ => .fail
def appendQ (t u : Nat) (s x : AV G) (base : Nat) : Q G (Eff G) := match P.underlying t, Nat.beq t u with
  | some (.slice el), true => match bytesOf? P el with
    | some bytes => match s with
      | .nilsl => elemsQ P E el x fun ys => .opt _ (chk (decide (ys.length * bytes ≤ 140737488355328))) fun _ => .ret ⟨.osl base, [(base, .row el ys)]⟩
      | .osl id => .ask id fun b => match b with
        | some (.row e xs) => match h : Nat.beq e el with
          | true => elemsQ P E el x fun ys => .opt _ (chk (decide ((xs.length + ys.length) * bytes ≤ 140737488355328))) fun _ =>
            .ret ⟨.osl base, [(id, .dead), (base, .row el ((Nat.eq_of_beq_eq_true h ▸ xs) ++ ys))]⟩
          | false => .fail
        | _ => .fail
      | _ => .fail
    | none => .fail
  | _, _ => .fail
def makeQ (t : Nat) (n m : AV G) (base : Nat) : Q G (Eff G) := match P.underlying t, n, m with
  | some (.slice el), .int .i64 n, .int .i64 m => match bytesOf? P el, E.zero el with
    | some bytes, some z => .opt _ (chk (decide (0 ≤ n ∧ n ≤ m ∧ m * bytes ≤ 140737488355328 ∧ m ≤ 9223372036854775807))) fun _ => .ret ⟨.osl base, [(base, .row el (List.replicate n.toNat z))]⟩
    | _, _ => .fail
  | _, _, _ => .fail
def lenQ (t : Nat) (x : AV G) : Q G (Eff G) := match P.underlying t, x with
  | some (.slice _), .ros _ xs => pureE (.int .i64 (xs.length : Int))
  | some (.slice _), .osl id => .ask id fun b => match b with | some (.row _ xs) => pureE (.int .i64 (xs.length : Int)) | _ => .fail
  | some (.slice _), .nilsl => pureE (.int .i64 0)
  | some (.slice _), .rosn _ xs => pureE (.int .i64 (xs.length : Int))
  | some (.slice _), .sub _ _ _ n => pureE (.int .i64 (n : Int))
  | some (.slice _), .asl _ _ n => pureE (.int .i64 (n : Int))
  | some .string, .str s => pureE (.int .i64 (s.size : Int))
  | some (.array n _), _ => pureE (.int .i64 (n : Int))
  | _, _ => .fail
def bndQ (d : Int) (x : Option (AV G)) : Option Int := match x with
  | none => some d
  | some (.int _ n) => some n
  | some _ => none
def cutn (lo hi len : Int) : Option (Nat × Nat) := match decide (0 ≤ lo ∧ lo ≤ hi ∧ hi ≤ len) with | true => some (lo.toNat, (hi - lo).toNat) | false => none
def maxQ (mx : Option (AV G)) (hi : Int) : Option Bool := match mx with
  | none => some true
  | some (.int _ m) => some (decide (m = hi))
  | some _ => none
def isMx (hi mx : Option (AV G)) : Bool := match hi, mx with | none, some _ => false | _, _ => true
def cutQ (mx : Option (AV G)) (a b : Option Int) (k : Int → Int → Q G (Eff G)) : Q G (Eff G) := match a, b with
  | some x, some y => match maxQ mx y with
    | some m => .opt _ (chk m) fun _ => k x y
    | none => .fail
  | _, _ => .fail
def sliceQ (t : Nat) (x : AV G) (lo hi mx : Option (AV G)) : Q G (Eff G) := match isMx hi mx with
  | false => .fail
  | true => match P.underlying t with
    | some (.slice el) => match sizeOf? P el with
      | none => .fail
      | some sz => match x with
        | .ros e xs => match Nat.beq e el with
          | true => cutQ mx (bndQ 0 lo) (bndQ xs.length hi) fun a b => .opt _ (cutx xs a b) fun ys => pureE (.ros e ys)
          | false => .fail
        | .rosn e xs => match Nat.beq e el with
          | true => cutQ mx (bndQ 0 lo) (bndQ xs.length hi) fun a b => .opt _ (cutx xs a b) fun ys => pureE (.rosn e ys)
          | false => .fail
        | .nilsl => cutQ mx (bndQ 0 lo) (bndQ 0 hi) fun a b => .opt _ (chk (decide (a = 0 ∧ b = 0))) fun _ => pureE .nilsl
        | .osl id => .ask id fun bk => match bk with
          | some (.row e xs) => match Nat.beq e el with
            | true => cutQ mx (bndQ 0 lo) (bndQ xs.length hi) fun a b => .opt _ (cutn a b xs.length) fun p => pureE (.sub id sz p.1 p.2)
            | false => .fail
          | _ => .fail
        | .sub id sz' l n => match Nat.beq sz' sz with
          | true => cutQ mx (bndQ 0 lo) (bndQ n hi) fun a b => .opt _ (cutn a b n) fun p => pureE (.sub id sz (l + p.1) p.2)
          | false => .fail
        | _ => .fail
    | some (.array len el) => match mx, x with
      | none, .ptr id off => match sizeOf? P el with
        | some sz => cutQ none (bndQ 0 lo) (bndQ len hi) fun a b => .opt _ (chk (decide (a < len))) fun _ => .opt _ (cutn a b len) fun p => pureE (.asl id (off + p.1 * sz) p.2)
        | none => .fail
      | _, _ => .fail
    | _ => .fail
def foldI (mx : Bool) (k : IntKind) (x : Int) : List (AV G) → Option (AV G)
  | [] => some (.int k x)
  | .int k' y :: r => match decide (k = k') with
    | true => foldI mx k (match mx with | true => (if y > x then y else x) | false => (if y < x then y else x)) r
    | false => none
  | _ => none
/-- The bytes of a string ahead of what was there. -/
def byteI (s : ByteArray) (j : Nat) : Int := ((s.data[j]?).getD 0).toNat
def ofStr (s : ByteArray) : Nat → List Int → List (AV G)
  | _, [] => []
  | j, x :: r => .int .u8 (if j < s.size then byteI s j else x) :: ofStr s (j + 1) r
def copyQ (t : Nat) (x y : AV G) : Q G (Eff G) := match P.underlying t, x, y with
  | some (.slice el), .asl id off n, .str s => match sizeOf? P el with
    | some 1 => .ask id fun b => match b with
      | some (.fix u cs) => match intsOf .u8 ((cs.drop off).take n), Nat.ble (off + n) cs.length with
        | some xs, true => .ret ⟨.int .i64 ((Nat.min s.size n : Nat) : Int), [(id, .fix u (cs.take off ++ (ofStr s 0 xs ++ cs.drop (off + n))))]⟩
        | _, _ => .fail
      | _ => .fail
    | _ => .fail
  | _, _, _ => .fail
def builtinQ (b : Builtin) (ts : List Nat) (xs : List (AV G)) (base : Nat) : Q G (Eff G) := match b, ts, xs with
  | .len, [t], [x] => lenQ P t x
  | .min, _, .int k x :: r => ofO (foldI false k x r)
  | .max, _, .int k x :: r => ofO (foldI true k x r)
  | .append, [t, u], [s, x] => appendQ P E t u s x base
  | .copy, [t, _], [x, y] => copyQ P t x y
  | .complex, _, [.flt a, .flt b] => pureE (.cpx a b)
  | .real, _, [.cpx a _] => pureE (.flt a)
  | .imag, _, [.cpx _ b] => pureE (.flt b)
  | _, _, _ => .fail
/-! ### Maps of whole numbers -/
/-- Is a key there? -/
def hasI (k : Int) : List Int → Bool
  | [] => false
  | a :: r => match decide (k = a) with | true => true | false => hasI k r
def addI (k : Int) (l : List Int) : List Int := match hasI k l with | true => l | false => l ++ [k]
/-- The first place of a key, and what is there. -/
def keyS {α : Type} (k : Int) : List (Int × α) → (Nat × α) ⊕ Unit
  | [] => .inr ()
  | p :: r => match decide (k = p.1) with
    | true => .inl (0, p.2)
    | false => match keyS k r with | .inl q => .inl (q.1 + 1, q.2) | .inr _ => .inr ()
def keyO {α : Type} (k : Int) (l : List (Int × α)) : Option (Nat × α) := match keyS k l with | .inl q => some q | .inr _ => none
def noKey {α : Type} (k : Int) (l : List (Int × α)) : Option Unit := match keyS k l with | .inl _ => none | .inr _ => some ()
def setVal {α : Type} : List (Int × α) → Nat → α → List (Int × α)
  | [], _, _ => []
  | p :: r, 0, x => (p.1, x) :: r
  | p :: r, i + 1, x => p :: setVal r i x
/-- Cells whose last one is a row that is only read. -/
structure RoS (G : Nat → Type) where
  f : List (AV G)
  e : Nat
  ts : List (G e)
def splitRo : List (AV G) → Option (RoS G)
  | [] => none
  | a :: r => match a, r with
    | .ros e ts, [] => some ⟨[], e, ts⟩
    | a, r => (splitRo r).map fun q => ⟨a :: q.f, q.e, q.ts⟩
/-- Cells whose last one is a row of the call's own. -/
def splitO : List (AV G) → Option (List (AV G) × Nat)
  | [] => none
  | a :: r => match a, r with
    | .osl id, [] => some ([], id)
    | a, r => (splitO r).map fun q => (a :: q.1, q.2)
def zeroNil (t : Nat) : Bool := match P.info? t with | some i => (match i.zero with | some (.pointer none) => true | _ => false) | none => false
def zeroNo (t : Nat) : Bool := match P.info? t with | some i => (match i.zero with | some (.bool false) => true | _ => false) | none => false
def keyI (t : Nat) : Bool := match intKind? P t with | some .i64 => true | _ => false
def makeMapQ (t base : Nat) : Q G (Eff G) := match P.underlying t with
  | some (.map _ el) => match P.underlying el with
    | some .bool => .ret ⟨.mapv base, [(base, .mset [])]⟩
    | some (.pointer e) => .ret ⟨.mapv base, [(base, .mrow e [] none)]⟩
    | _ => .fail
  | _ => .fail
def openQ (id e : Nat) (xs : List (Int × G e)) (base : Nat) (p : Nat × G e) : Q G (Eff G) := match splitRo (E.enc e p.2) with
  | some q => .ret ⟨.ptr base 0, [(id, .mrow e xs (some (p.1, base, base + 1))), (base, .fix e (q.f ++ [.osl (base + 1)])), (base + 1, .row q.e q.ts)]⟩
  | none => .fail
def lookupQ (t : Nat) (x k : AV G) (ok : Bool) (base : Nat) : Q G (Eff G) := match P.underlying t, k, ok with
  | some (.map kt el), .int .i64 n, false => match keyI P kt with
    | false => .fail
    | true => match x with
      | .mapv id => .ask id fun b => match b with
        | some (.mset ks) => match zeroNo P el with | true => pureE (.bool (hasI n ks)) | false => .fail
        | some (.mrow e xs none) => match zeroNil P el with
          | true => .alt _ _ (keyS n xs) (fun p => openQ E id e xs base p) (fun _ => pureE .nilptr)
          | false => .fail
        | _ => .fail
      | .romap e xs => .opt _ (keyO n xs) fun p => pureE (.rop (E.enc e p.2))
      | _ => .fail
  | _, _, _ => .fail
def mapUpdateQ (t : Nat) (x k v : AV G) : Q G (Eff G) := match P.underlying t, k with
  | some (.map kt _), .int .i64 n => match keyI P kt, x with
    | true, .mapv id => .ask id fun b => match b, v with
      | some (.mset ks), .bool true => .ret ⟨.any, [(id, .mset (addI n ks))]⟩
      | some (.mrow e xs none), .ptr p 0 => .opt _ (noKey n xs) fun _ => .ask p fun b => match b with
        | some (.fix u cs) => match Nat.beq u e, splitO cs with
          | true, some q => .ask q.2 fun b => match b with
            | some (.row e' ts) => match E.decX e (q.1 ++ [.ros e' ts]) with
              | some y => .ret ⟨.any, [(id, .mrow e (xs ++ [(n, y)]) (some (xs.length, p, q.2)))]⟩
              | none => .fail
            | _ => .fail
          | _, _ => .fail
        | _ => .fail
      | _, _ => .fail
    | _, _ => .fail
  | _, _ => .fail
def opQ (ev : Operand → AV G) (base : Nat) (o : Op) : Q G (Eff G) := match o with
  | .move x | .assign x => pureE (ev x)
  | .pick c a b => match ev c with | .bool t => (match t with | true => pureE (ev a) | false => pureE (ev b)) | _ => .fail
  | .alloc t => match zeroOf P t with
    | some z => match z.all AV.one with | true => .ret ⟨.ptr base 0, [(base, .fix t z)]⟩ | false => .fail
    | none => .fail
  | .box t x => match (ev x).cells.all AV.one with | true => .ret ⟨.ptr base 0, [(base, .fix t (ev x).cells)]⟩ | false => .fail
  | .build t ps => buildQ P t (ps.toList.map fun p => (p.1, ev p.2))
  | .buildSlice t n ps => buildSliceQ P E t n (ps.toList.map fun p => (p.1, ev p.2)) base
  | .load t x => loadQ P E t (ev x)
  | .store t x y => storeQ P E t (ev x) (ev y)
  | .makeSlice t n m => makeQ P E t (ev n) (ev m) base
  | .makeMap t r => match r with | none => makeMapQ P t base | some _ => .fail
  | .lookup t x k ok => lookupQ P E t (ev x) (ev k) ok base
  | .mapUpdate t m k v => mapUpdateQ P E t (ev m) (ev k) (ev v)
  | .nilCheck x => match ev x with | .ptr i o => pureE (.ptr i o) | .rop cs => pureE (.rop cs) | .optr a b c d => pureE (.optr a b c d) | .aptr a b c d => pureE (.aptr a b c d) | .oarr a b c d f g => pureE (.oarr a b c d f g) | _ => .fail
  | .binOp op t x y _ => binQ P op t (ev x) (ev y)
  | .unOp op _ x => unQ op (ev x)
  | .convert s d x => convS P E s d (ev x)
  | .sliceToArrayPointer t x => sapQ P E t (ev x)
  | .makeFunc f first cap => pureE (.fnv f (first.toList.map ev) (cap.toList.map ev))
  | .fieldAddr s x f => fieldQ P s (ev x) f
  | .field s x f => fieldVQ P s (ev x) f
  | .indexAddr t x i => indexAddrQ P E t (ev x) (ev i)
  | .index t x i => indexVQ P t (ev x) (ev i)
  | .slice t x lo hi mx => sliceQ P t (ev x) (lo.map ev) (hi.map ev) (mx.map ev)
  | .extract x i => match ev x with | .tup cs => ofO cs[i]? | _ => .fail
  | .call c => match c.callee with
    | .builtin b => builtinQ P E b c.argTypes.toList (c.args.toList.map ev) base
    | .value f => match ev f with
      | .fnv (.func g) first cap => C (.fn g) (first ++ c.args.toList.map ev ++ cap) base
      | .yld id => .ask id fun b => match b with
        | some (.lp key .ready _) => C (.yl key) (.yld id :: c.args.toList.map ev) base
        | _ => .fail
      | _ => .fail
    | _ => .fail
  | _ => .fail

/-- How many numbers one operation may give to new blocks. -/
def stride : Nat := 16

/-- What an operation has read and written. -/
structure Mk where
  i : Nat
  rd : List Nat
  wr : List Nat

/-- Blocks are written, or are new under the operation's own numbers. -/
def updOk (st : St G) (base : Nat) : List (Nat × Blk G) → Bool
  | [] => true
  | (id, _) :: r => match st.blk id with
    | some _ => updOk st base r
    | none => match Nat.ble base id, Nat.blt id (base + stride) with | true, true => updOk st base r | _, _ => false

/-- A region, in the text's order. -/
def dstOk (nt : Nat) (d : Option Nat) : Bool := match d with | some x => Nat.blt x nt | none => true
def regionK {R : Type} (nt : Nat) (all : List Oper) (base : Nat) : List Oper → Nat → St G → List Mk → (St G → List Mk → Option R) → Option R
  | [], _, st, log, K => K st log
  | o :: rest, i, st, log, K =>
    let perform : St G → Option R := fun st => (opQ P E C st.eval (base + stride * i) o.op).run st.blk [] fun e l => match updOk st (base + stride * i) e.upd with
      | true => regionK nt all base rest (i + 1) (st.app o.dst e) (⟨i, l, e.upd.map (·.1)⟩ :: log) K
      | false => none
    let skip : St G → Option R := fun st => regionK nt all base rest (i + 1) (st.put o.dst (.tup [])) log K
    match dstOk nt o.dst with
    | false => none
    | true => match o.guard with
      | none => perform st
      | some (j, want) => match (all[j]?).bind (·.dst) with
        | some d => match st.get d with
          | .bool t => match t with
            | true => (match want with | true => perform (st.put (some d) (.bool true)) | false => skip (st.put (some d) (.bool true)))
            | false => (match want with | false => perform (st.put (some d) (.bool false)) | true => skip (st.put (some d) (.bool false)))
          | .tup [] => skip st
          | _ => none
        | none => none

def tmpsOf (o : Op) : List Nat := o.operands.toList.filterMap fun | .tmp t => some t | _ => none
def usesOf (all : List Oper) (o : Oper) : List Nat := tmpsOf o.op ++ (match o.guard with | some (j, _) => ((all[j]?).bind (·.dst)).toList | none => [])
def mem (x : Nat) : List Nat → Bool
  | [] => false
  | y :: r => match Nat.beq x y with | true => true | false => mem x r
def meets : List Nat → List Nat → Bool
  | [], _ => false
  | x :: r, l => match mem x l with | true => true | false => meets r l
/-- May two operations change places? -/
def apart (all : List Oper) (a b : Oper) : Bool :=
  !(meets a.dst.toList (usesOf all b ++ b.dst.toList)) && !(meets b.dst.toList (usesOf all a ++ a.dst.toList))
def mkOf (log : List Mk) (i : Nat) : List Nat × List Nat := match log with
  | [] => ([], [])
  | m :: r => match Nat.beq m.i i with | true => (m.rd, m.wr) | false => mkOf r i
def calm (a b : List Nat × List Nat) : Bool := !(meets a.2 b.1) && !(meets a.2 b.2) && !(meets b.2 a.1)
/-- Which operations go ahead of each one, whatever the order: a number's bits. -/
def force {R : Type} (n : Nat) (f : Nat → R) : R := match n with | 0 => f 0 | k + 1 => f (k + 1)
def aheadOne (acc : List Nat) (o : Oper) : Nat := o.after.toList.foldl (fun s e => match Region.binds .any e with | true => s ||| (2 ^ e.on) ||| acc.getD e.on 0 | false => s) 0
def aheadL : List Oper → List Nat → List Nat
  | [], acc => acc
  | o :: r, acc => force (aheadOne acc o) fun v => aheadL r (acc ++ [v])
/-- May an operation change places with one behind it? -/
def pairOk (all : List Oper) (log : List Mk) (a b : Oper) (i j : Nat) : Bool := apart all a b && calm (mkOf log i) (mkOf log j)
def rowOk (all : List Oper) (log : List Mk) (b : Oper) (j : Nat) (bits : Nat) : List Oper → Nat → Bool
  | [], _ => true
  | a :: r, i => match Nat.blt i j with
    | false => true
    | true => match Nat.testBit bits i with
      | true => rowOk all log b j bits r (i + 1)
      | false => match pairOk all log a b i j with | true => rowOk all log b j bits r (i + 1) | false => false
def freeRows (all : List Oper) (log : List Mk) : List Oper → List Nat → Nat → Bool
  | o :: r, v :: vs, j => match rowOk all log o j v all 0 with | true => freeRows all log r vs (j + 1) | false => false
  | _, _, _ => true
/-- Whatever is not in order may change places. -/
def depsOk : List Oper → Nat → Bool
  | [], _ => true
  | o :: r, i => match o.after.toList.all (fun e => match Region.binds .any e with | true => Nat.blt e.on i | false => true) with | true => depsOk r (i + 1) | false => false
def freeOrder (all : List Oper) (log : List Mk) : Bool := match depsOk all 0 with | true => freeRows all log all (aheadL all []) 0 | false => false

end ops

/-! ### States told anew: from roots -/
inductive Pat where
  | any
  | keep
  | ros (e : Nat)
  | rosn (e : Nat)
  | own (j e : Nat)
  | sub (j sz : Nat)
  | ptr (j off t : Nat) (cs : List Pat)
  | agg (cs : List Pat)
  | tup (cs : List Pat)
  | fn (f : Fn) (first cap : List Pat)
  | yld (j key : Nat) (cs : List Pat)
  | mset (j : Nat)
  | mrow (j e : Nat)
  | romap (e : Nat)

structure CS (G : Nat → Type) where
  ids : List (Nat × Option Nat)
  hp : List (Nat × Blk G)
  lent : List Nat

def simple : AV G → Bool
  | .int _ _ | .bool _ | .str _ | .flt _ | .cpx _ _ | .nilptr | .nilfn | .nilsl => true
  | _ => false
def taken (id : Nat) : List (Nat × Option Nat) → Bool
  | [] => false
  | (_, some i) :: r => match Nat.beq i id with | true => true | false => taken id r
  | (_, none) :: r => taken id r
def canonAll {α : Type} (f : Pat → α → CS G → Q G (α × CS G)) : List Pat → List α → CS G → Q G (List α × CS G)
  | [], [], s => .ret ([], s)
  | p :: ps, v :: vs, s => (f p v s).bind fun (v', s') => (canonAll f ps vs s').bind fun (vs', s'') => .ret (v' :: vs', s'')
  | _, _, _ => .fail
/-- A value told by a pattern, its blocks numbered anew. -/
def canonP (P : Program) : Nat → Pat → AV G → CS G → Q G (AV G × CS G)
  | 0, _, _, _ => .fail
  | d + 1, p, v, s =>
    match p, v with
    | .any, _ => .ret (.any, s)
    | .keep, v => match simple v with | true => .ret (v, s) | false => .fail
    | .ros e, .nilsl => .ret (.ros e [], s)
    | .ros e, .ros e' xs => match Nat.beq e e' with | true => .ret (.ros e' xs, s) | false => .fail
    | .ros e, .rosn e' xs => match Nat.beq e e' with | true => .ret (.ros e' xs, s) | false => .fail
    | .rosn e, .rosn e' xs => match Nat.beq e e' with | true => .ret (.rosn e' xs, s) | false => .fail
    | .ros e, .osl id => .ask id fun b => match b with
      | some (.row e' xs) => match Nat.beq e e' with | true => .ret (.ros e' xs, { s with lent := id :: s.lent }) | false => .fail
      | _ => .fail
    | .ros e, .sub id sz lo n => .ask id fun b => match b with
      | some (.row e' xs) => match Nat.beq e e', sizeIs P e sz with | true, true => .ret (.ros e' ((xs.drop lo).take n), { s with lent := id :: s.lent }) | _, _ => .fail
      | _ => .fail
    | .own j e, .nilsl => match lk s.ids j, sizeOf? P e with
      | none, some _ => .ret (.osl j, { s with ids := (j, none) :: s.ids, hp := (j, .row e []) :: s.hp })
      | _, _ => .fail
    | .own j e, .osl id => match lk s.ids j with
      | none => match taken id s.ids with
        | true => .fail
        | false => .ask id fun b => match b with
          | some (.row e' xs) => match Nat.beq e e' with | true => .ret (.osl j, { s with ids := (j, some id) :: s.ids, hp := (j, .row e' xs) :: s.hp }) | false => .fail
          | _ => .fail
      | some (some i) => match Nat.beq i id with | true => .ret (.osl j, s) | false => .fail
      | some none => .fail
    | .sub j sz, .sub id sz' lo n => match lk s.ids j with
      | some (some i) => match Nat.beq i id, Nat.beq sz sz' with | true, true => .ret (.sub j sz lo n, s) | _, _ => .fail
      | _ => .fail
    | .ptr j off t ps, .ptr id off' => match Nat.beq off off' with
      | false => .fail
      | true => match lk s.ids j with
        | some (some i) => match Nat.beq i id with | true => .ret (.ptr j off', s) | false => .fail
        | some none => .fail
        | none => match taken id s.ids with
          | true => .fail
          | false => .ask id fun b => match b with
            | some (.fix t' cs) => match Nat.beq t t' with
              | true => (canonAll (canonP P d) ps cs { s with ids := (j, some id) :: s.ids }).bind fun (cs', s') => .ret (.ptr j off', { s' with hp := (j, .fix t' cs') :: s'.hp })
              | false => .fail
            | _ => .fail
    | .yld j key ps, .yld id => match lk s.ids j with
      | some (some i) => match Nat.beq i id with | true => .ret (.yld j, s) | false => .fail
      | some none => .fail
      | none => match taken id s.ids with
        | true => .fail
        | false => .ask id fun b => match b with
          | some (.lp key' ls' cs) => match Nat.beq key key' with
            | true => (canonAll (canonP P d) ps cs { s with ids := (j, some id) :: s.ids }).bind fun (cs', s') => .ret (.yld j, { s' with hp := (j, .lp key' ls' cs') :: s'.hp })
            | false => .fail
          | _ => .fail
    | .mset j, .mapv id => match lk s.ids j with
      | none => match taken id s.ids with
        | true => .fail
        | false => .ask id fun b => match b with
          | some (.mset ks) => .ret (.mapv j, { s with ids := (j, some id) :: s.ids, hp := (j, .mset ks) :: s.hp })
          | _ => .fail
      | _ => .fail
    | .mrow j e, .mapv id => match lk s.ids j with
      | none => match taken id s.ids with
        | true => .fail
        | false => .ask id fun b => match b with
          | some (.mrow e' xs none) => match Nat.beq e e' with | true => .ret (.mapv j, { s with ids := (j, some id) :: s.ids, hp := (j, .mrow e' xs none) :: s.hp }) | false => .fail
          | _ => .fail
      | _ => .fail
    | .romap e, .mapv id => .ask id fun b => match b with
      | some (.mrow e' xs none) => match Nat.beq e e' with | true => .ret (.romap e' xs, { s with lent := id :: s.lent }) | false => .fail
      | _ => .fail
    | .romap e, .romap e' xs => match Nat.beq e e' with | true => .ret (.romap e' xs, s) | false => .fail
    | .agg ps, .agg vs => (canonAll (canonP P d) ps vs s).bind fun (vs', s') => .ret (.agg vs', s')
    | .tup ps, .tup vs => (canonAll (canonP P d) ps vs s).bind fun (vs', s') => .ret (.tup vs', s')
    | .fn f p1 p2, .fnv f' v1 v2 => match decide (f = f') with
      | true => (canonAll (canonP P d) p1 v1 s).bind fun (w1, s1) => (canonAll (canonP P d) p2 v2 s1).bind fun (w2, s2) => .ret (.fnv f' w1 w2, s2)
      | false => .fail
    | _, _ => .fail
def canonL (P : Program) (ps : List Pat) (vs : List (AV G)) : Q G (List (AV G) × CS G) := canonAll (canonP P 8) ps vs ⟨[], [], []⟩
/-- All numbers have their blocks, below a bound; what is lent is not handed over. -/
def settled (s : CS G) : Bool := match s.ids.all (fun p => match lk s.hp p.1 with | some _ => Nat.blt p.1 stride | none => false) with
  | true => s.lent.all fun i => match taken i s.ids with | true => false | false => true
  | false => false
/-- Blocks that keep their numbers. -/
def footN : Pat → Nat
  | .ptr j _ _ _ => j
  | .own j _ => j
  | .yld j _ _ => j
  | _ => 0
def footOk (s : CS G) (foot : List Pat) : Bool := foot.all fun p => match lk s.ids (footN p) with | some (some i) => Nat.beq i (footN p) | _ => false

/-- Numbers of blocks, told back. -/
def AV.ren (f : Nat → Nat) : Nat → AV G → AV G
  | 0, _ => .any
  | d + 1, v => match v with
    | .ptr id off => .ptr (f id) off
    | .yld id => .yld (f id)
    | .osl id => .osl (f id)
    | .sub id sz lo n => .sub (f id) sz lo n
    | .optr _ _ _ _ | .aptr _ _ _ _ | .oarr _ _ _ _ _ _ | .asl _ _ _ | .mapv _ => .any
    | .rop cs => .rop (cs.map (AV.ren f d))
    | .agg cs => .agg (cs.map (AV.ren f d))
    | .tup cs => .tup (cs.map (AV.ren f d))
    | .fnv g a b => .fnv g (a.map (AV.ren f d)) (b.map (AV.ren f d))
    | v => v
def Blk.ren (f : Nat → Nat) : Blk G → Blk G
  | .fix t cs => .fix t (cs.map (AV.ren f 4))
  | .lp k ls cs => .lp k ls (cs.map (AV.ren f 4))
  | .mrow e xs (some (i, p, s)) => .mrow e xs (some (i, f p, f s))
  | b => b
/-- Leads to no numbered block. -/
def AV.shut : Nat → AV G → Bool
  | 0, _ => false
  | d + 1, v => match v with
    | .ptr _ _ | .yld _ | .osl _ | .optr _ _ _ _ | .aptr _ _ _ _ | .oarr _ _ _ _ _ _ | .sub _ _ _ _ | .asl _ _ _ | .mapv _ => false
    | .rop cs | .agg cs | .tup cs => cs.all (AV.shut d)
    | .fnv _ a b => a.all (AV.shut d) && b.all (AV.shut d)
    | _ => true
/-- Leads to no memory that is only read. -/
def AV.noRO : Nat → AV G → Bool
  | 0, _ => false
  | d + 1, v => match v with
    | .ros _ _ | .rosn _ _ | .rop _ | .romap _ _ => false
    | .agg cs | .tup cs => cs.all (AV.noRO d)
    | .fnv _ a b => a.all (AV.noRO d) && b.all (AV.noRO d)
    | _ => true
def Blk.noRO (E : Env G) : Blk G → Bool
  | .fix _ cs => cs.all (AV.noRO 4)
  | .lp _ _ cs => cs.all (AV.noRO 4)
  | .row e _ => E.plain e
  | .dead => true
  | .mset _ => true
  | .mrow _ _ _ => false
def back (ids : List (Nat × Option Nat)) (base j : Nat) : Nat := match lk ids j with | some (some i) => i | _ => base + j
def gone (ids : List (Nat × Option Nat)) (hp : List (Nat × Blk G)) : List (Nat × Blk G) := ids.filterMap fun p => match lk ids p.1 with | some (some i) => (match lk hp p.1 with | none => some (i, .dead) | some _ => none) | _ => none
def backB (ids : List (Nat × Option Nat)) (base : Nat) (p : Nat × Blk G) : Nat × Blk G := (back ids base p.1, p.2.ren (back ids base))

def resAV : List (AV G) → AV G
  | [a] => a
  | cs => .tup cs
/-- What a call leaves, by the numbers of its caller. -/
def retQ (E : Env G) (s : CS G) (base : Nat) (e : List (AV G) × List (Nat × Blk G)) : Q G (Eff G) := match e.2.all (fun p => Nat.blt p.1 stride), (match s.lent with | [] => true | _ => (resAV e.1).noRO 4 && e.2.all (fun p => p.2.noRO E)) with
  | true, true => .ret ⟨AV.ren (back s.ids base) 4 (resAV e.1), e.2.map (backB s.ids base) ++ gone s.ids e.2⟩
  | _, _ => .fail
/-- A call of what is known as a function on terms. -/
def callQ (P : Program) (E : Env G) {V W : Type} (ps : List Pat) (dec : List (AV G) → List (Nat × Blk G) → Option V) (f : V → Option W) (enc : W → List (AV G) × List (Nat × Blk G)) (args : List (AV G)) (base : Nat) : Q G (Eff G) :=
  (canonL P ps args).bind fun r => match settled r.2, dec r.1 r.2.hp with
    | true, some v => .opt _ (f v) fun w => retQ E r.2 base (enc w)
    | _, _ => .fail
/-- How results are told, of one shape or of several. -/
structure WK (G : Nat → Type) (W : Type) where
  enc : W → List (AV G) × List (Nat × Blk G)
  ret : (List (AV G) × List (Nat × Blk G) → Q G (Eff G)) → W → Q G (Eff G)
def callW (P : Program) (E : Env G) {V W : Type} (ps : List Pat) (dec : List (AV G) → List (Nat × Blk G) → Option V) (f : V → Option W) (t : WK G W) (args : List (AV G)) (base : Nat) : Q G (Eff G) :=
  (canonL P ps args).bind fun r => match settled r.2, dec r.1 r.2.hp with
    | true, some v => .opt _ (f v) fun w => t.ret (retQ E r.2 base) w
    | _, _ => .fail

section run
variable (P : Program) (E : Env G) (C : Oracle G)

def headId : List Item → Option Nat
  | .code (.region id _ _) :: _ => some id
  | _ => none

/-- A region, and what follows. -/
def evR {R : Type} (nt : Nat) (go : List Item → St G → Option R) (ops : Array Oper) (draw : Bool) (k : List Item) (st : St G) : Option R :=
  regionK P E C nt ops.toList st.next ops.toList 0 st [] fun st' log =>
    match draw with
    | false => go k { st' with next := st.next + stride * ops.size }
    | true => match freeOrder ops.toList log with
      | true => go k { st' with next := st.next + stride * ops.size }
      | false => none

/-- Code, to its end, or to where it is cut; 'fin' is told by which jump it is left. -/
def ev {R : Type} (nt : Nat) (cut : Nat → Bool) (L : Nat → St G → Option R) (fin : Option Code → St G → Option R) : Nat → List Item → St G → Option R
  | 0, _, _ => none
  | n + 1, td, st => match td with
    | [] => fin none st
    | .code c :: k => match c with
      | .ret => fin (some .ret) st
      | .skip | .label _ => ev nt cut L fin n k st
      | .seq a b => ev nt cut L fin n (.code a :: .code b :: k) st
      | .cond c a b => match st.eval c with
        | .bool t => (match t with | true => ev nt cut L fin n (.code a :: k) st | false => ev nt cut L fin n (.code b :: k) st)
        | _ => none
      | .block id b => ev nt cut L fin n (.code b :: .inBlock id :: k) st
      | .loop b => ev nt cut L fin n (.code b :: .inLoop b :: k) st
      | .scope b => ev nt cut L fin n (.code b :: .inScope b :: k) st
      | .exit id => match exitTo id k with | some k' => ev nt cut L fin n k' st | none => fin (some (.exit id)) st
      | .goto l => match gotoIn l k with | some k' => ev nt cut L fin n k' st | none => fin (some (.goto l)) st
      | .region id ops draw => match cut id with
        | true => L id st
        | false => evR P E C nt (ev nt cut L fin n) ops draw k st
      | .rangeFunc _ _ as bd => match cut (keyOf as bd) with
        | true => L (keyOf as bd) st
        | false => none
      | _ => none
    | .inBlock _ :: k | .inScope _ :: k => ev nt cut L fin n k st
    | .inLoop b :: k => ev nt cut L fin n (.code b :: .inLoop b :: k) st
    | .beginRound :: k => match st.blk 0 with
      | some (.lp key .ready cs) => ev nt cut L fin n k { st with heap := (0, .lp key .busy cs) :: st.heap }
      | _ => none
    | _ => none

/-- A loop over a function: the function is called; where all rounds are over, or one has left by a jump. -/
def evF {R : Type} (key nt : Nat) (go : List Item → St G → Option R) (f : Operand) (k : List Item) (st : St G) : Option R := match st.eval f with
  | .fnv (.func gf) first cap => match (P.funcs[gf]?).map fun fn => (fn.name == "runtime.NumGoroutine" || fn.body.isNone) with
   | some false =>
    (C (.fn gf) (first ++ [.yld st.next] ++ cap) (st.next + stride)).run ({ st with heap := (st.next, .lp key .ready ((List.range nt).map st.get)) :: st.heap } : St G).blk [] fun e _ =>
      match updOk ({ st with heap := (st.next, .lp key .ready ((List.range nt).map st.get)) :: st.heap } : St G) (st.next + stride) e.upd with
      | false => none
      | true => match (({ st with heap := (st.next, .lp key .ready ((List.range nt).map st.get)) :: st.heap } : St G).upd e.upd).blk st.next with
        | some (.lp _ .ready _) => go k { tmps := st.tmps, heap := (st.next, .dead) :: ins e.upd ((st.next, .lp key .ready ((List.range nt).map st.get)) :: st.heap), next := st.next + stride + stride }
        | some (.lp _ (.done c) _) => match isJmp c with
          | true => go (.code c :: k) { tmps := st.tmps, heap := (st.next, .dead) :: ins e.upd ((st.next, .lp key .ready ((List.range nt).map st.get)) :: st.heap), next := st.next + stride + stride }
          | false => none
        | _ => none
   | _ => none
  | _ => none

/-- 'rd': in a round no loop over a function begins. -/
def evCut {R : Type} (rd : Bool) (fid nt : Nat) (cut : Nat → Bool) (L : Nat → St G → Option R) (fin : Option Code → St G → Option R) (n : Nat) (td : List Item) (st : St G) : Option R := match td with
  | .code (.region _ ops draw) :: k => evR P E C nt (ev P E C nt cut L fin n) ops draw k st
  | .code (.rangeFunc f _ as bd) :: k => match rd, Nat.ble (keyOf as bd) 1023 with
    | false, true => evF P C (fid * 1024 + keyOf as bd) nt (ev P E C nt cut L fin n) f k st
    | _, _ => none
  | _ => none

/-- The results of a function, and then its end. -/
def resQ : List ResultVar → St G → Q G (List (AV G))
  | [], _ => .ret []
  | .tmp t :: r, st => (resQ r st).bind fun vs => .ret (st.get t :: vs)
  | .cell a t :: r, st => (loadQ P E t (st.get a)).bind fun e => (resQ r st).bind fun vs => .ret (e.res :: vs)
/-- A state told anew, by its roots; blocks of 'foot' keep their numbers. -/
def footQ : List Pat → Q G (List (AV G))
  | [] => .ret []
  | .own j _ :: r => .ask j fun b => match b with | some (.row _ _) => (footQ r).bind fun vs => .ret (.osl j :: vs) | _ => .fail
  | .ptr j off _ _ :: r => .ask j fun b => match b with | some _ => (footQ r).bind fun vs => .ret (.ptr j off :: vs) | none => .fail
  | .yld j _ _ :: r => .ask j fun b => match b with | some _ => (footQ r).bind fun vs => .ret (.yld j :: vs) | none => .fail
  | _ => .fail
def tellK {R V : Type} (ps foot : List Pat) (dec : List (AV G) → List (Nat × Blk G) → Option V) (K : V → Option R) (q : Q G (List (AV G))) (h : Nat → Option (Blk G)) : Option R :=
  (q.bind fun vs => (footQ foot).bind fun fs => canonL P (foot ++ ps) (fs ++ vs)).run h [] fun r _ => match settled r.2, footOk r.2 foot, dec (r.1.drop foot.length) r.2.hp with
    | true, true, some v => K v
    | _, _, _ => none
def finK {R : Type} (rs : List ResultVar) (ps foot : List Pat) (dec : List (AV G) → List (Nat × Blk G) → Option R) (st : St G) : Option R :=
  tellK P ps foot dec some (resQ P E rs st) st.blk

/-- The end, by the first shape that fits; each shape with its foot. -/
def finA {R : Type} (rs : List ResultVar) : List (List Pat) → List (List Pat × (List (AV G) → List (Nat × Blk G) → Option R)) → St G → Option R
  | foot :: fs, p :: r, st => match finK P E rs p.1 foot p.2 st with
    | some v => some v
    | none => finA rs fs r st
  | _, _, _ => none

def finF {R : Type} (rs : List ResultVar) (foots : List (List Pat)) (alts : List (List Pat × (List (AV G) → List (Nat × Blk G) → Option R))) : Option Code → St G → Option R
  | none, st => finA P E rs foots alts st
  | some .ret, st => finA P E rs foots alts st
  | _, _ => none
/-- A round's end: the loop's record told anew, and whether the rounds go on. -/
def endLS : Option Code → LS
  | none => .ready
  | some c => .done c
def finB {R : Type} : List (List Pat) → List (List Pat × (List (AV G) → List (Nat × Blk G) → Option R)) → Option Code → St G → Option R
  | foot :: fs, p :: r, j, st => match st.blk 0 with
    | some (.lp key .busy cs) => match tellK P p.1 foot p.2 some (.ret [.bool j.isNone]) ({ st with heap := (0, .lp key (endLS j) cs) :: st.heap } : St G).blk with
      | some v => some v
      | none => finB fs r j st
    | _ => none
  | _, _, _, _ => none
/-- The same numbers. -/
def eqN : List Nat → List Nat → Bool
  | [], [] => true
  | a :: r, b :: s => match Nat.beq a b with | true => eqN r s | false => false
  | _, _ => false
/-- The same blocks keep their numbers, in whatever order. -/
def footEq (f g : List Pat) : Bool := (f.all fun p => mem (footN p) (g.map footN)) && (g.all fun p => mem (footN p) (f.map footN))

/-- A map's entry that is looked at through blocks of their own goes back into the map. -/
def closeB (st : St G) (id : Nat) : St G := match st.blk id with
  | some (.mrow e xs (some (i, p, s))) => match st.blk p, st.blk s with
    | some (.fix t cs), some (.row e' ts) => match splitO cs with
      | some q => match Nat.beq q.2 s, Nat.beq t e, E.decX e (q.1 ++ [.ros e' ts]) with
        | true, true, some y => { st with heap := (id, .mrow e (setVal xs i y) none) :: (p, .dead) :: (s, .dead) :: st.heap }
        | _, _, _ => st
      | none => st
    | _, _ => st
  | _ => st
def normS (no : List Nat) : List (Nat × Pat) → St G → St G
  | [], st => st
  | (d, p) :: r, st => match p with
    | .mrow _ _ | .romap _ => match st.get d with
      | .mapv id => match mem id no with
        | true => normS no r st
        | false => normS no r (closeB E st id)
      | _ => normS no r st
    | _ => normS no r st
def normF (slots : List (Nat × Pat)) (foot : List Pat) (st : St G) : St G := normS E (foot.map footN) slots st
/-- A state at a cut, told anew by its roots. -/
def cutK {R V : Type} (slots : List (Nat × Pat)) (foot : List Pat) (dec : List (AV G) → List (Nat × Blk G) → Option V) (K : V → Option R) (st : St G) : Option R :=
  tellK P (slots.map (·.2)) foot dec K (.ret (slots.map fun p => st.get p.1)) (normF E slots foot st).blk
def zipS {α β : Type} : List α → List β → List (α × β)
  | a :: r, b :: s => (a, b) :: zipS r s
  | _, _ => []
def cutSt (slots : List (Nat × Pat)) (e : List (AV G) × List (Nat × Blk G)) : St G := { tmps := zipS (slots.map (·.1)) e.1, heap := e.2, next := stride }
def argSt (e : List (AV G) × List (Nat × Blk G)) : St G := { tmps := zipS (List.range e.1.length) e.1, heap := e.2, next := stride }

/-- A round, as it begins: the record's slots, with what is yielded. -/
def setAll {α : Type} : List Nat → List α → List α → List α
  | t :: ts, a :: as, cs => setAll ts as (cs.set t a)
  | _, _, cs => cs
def rndSt (ps : List Nat) (e : List (AV G) × List (Nat × Blk G)) : St G := match lk e.2 0 with
  | some (.lp _ _ cs) => { tmps := zipS (List.range cs.length) (setAll ps (e.1.drop 1) cs), heap := e.2, next := stride }
  | _ => { tmps := [], heap := e.2, next := stride }
/-- All places of regions in code, each with what follows. -/
def cutsC : Code → List Item → List (Nat × List Item)
  | .region id ops d, k => [(id, .code (.region id ops d) :: k)]
  | .rangeFunc f ps as bd, k => [(keyOf as bd, .code (.rangeFunc f ps as bd) :: k)]
  | .seq a b, k => cutsC a (.code b :: k) ++ cutsC b k
  | .cond _ a b, k => cutsC a k ++ cutsC b k
  | .block id c, k => cutsC c (.inBlock id :: k)
  | .loop c, k => cutsC c (.inLoop c :: k)
  | .scope c, k => cutsC c (.inScope c :: k)
  | _, _ => []
/-- No number twice. -/
def nodupB : List Nat → Bool
  | [] => true
  | x :: r => match mem x r with | true => false | false => nodupB r
def todoAt (c : Code) (id : Nat) : List Item := (lk (cutsC c []) id).getD []
/-- A loop over a function by its number: whose it is, its slots, its code. -/
def siteOf (P : Program) (key : Nat) : Option (Array Tmp × Code × Code) := match P.funcs[key / 1024]? with
  | some fn => match fn.body with
    | some c => match todoAt c (key % 1024) with
      | .code (.rangeFunc _ ps as bd) :: _ => some (ps, as, bd)
      | _ => none
    | none => none
  | none => none

end run
end Go.Proofs.Ytemdppcnhlnicaa.Ev
