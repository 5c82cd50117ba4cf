import Derived.Test.YtemdppcnhlnicaaEvX
import Derived.Test.YtemdppcnhlnicaaChecked
set_option linter.unusedVariables false
namespace Go.Proofs.Ytemdppcnhlnicaa.Ev
open Go Go.RowKit
def G : Nat → Type
  | 3 => Int
  | 26 => List Int × Int
  | 38 => List Int × Int
  | 48 => Int × Int × List Int
  | 49 => Int × Int × List Int
  | _ => Empty
def sh3 : Sh (List (AV G)) (G 3) := (Sh.fst (Sh.cons (Sh.int .i64) Sh.nil))
def sh26 : Sh (List (AV G)) (G 26) := (Sh.cons (Sh.ros 3) (Sh.fst (Sh.cons (Sh.int .i64) Sh.nil)))
def sh38 : Sh (List (AV G)) (G 38) := (Sh.cons (Sh.ros 3) (Sh.fst (Sh.cons (Sh.int .i64) Sh.nil)))
def sh48 : Sh (List (AV G)) (G 48) := (Sh.cons (Sh.int .i64) (Sh.cons (Sh.int .i64) (Sh.fst (Sh.cons (Sh.ros 3) Sh.nil))))
def sh49 : Sh (List (AV G)) (G 49) := (Sh.cons (Sh.int .i64) (Sh.cons (Sh.int .i64) (Sh.fst (Sh.cons (Sh.ros 3) Sh.nil))))
def E : Env G where
  enc
    | 3 => sh3.enc
    | 26 => sh26.enc
    | 38 => sh38.enc
    | 48 => sh48.enc
    | 49 => sh49.enc
    | _ => fun _ => []
  dec
    | 3 => sh3.dec
    | 26 => fun cs => sh26.dec (normR [some 3, none] cs)
    | 38 => fun cs => sh38.dec (normR [some 3, none] cs)
    | 48 => fun cs => sh48.dec (normR [none, none, some 3] cs)
    | 49 => fun cs => sh49.dec (normR [none, none, some 3] cs)
    | _ => fun _ => none
  zero
    | 3 => some ((0 : Int) : Int)
    | 26 => none
    | 38 => none
    | 48 => none
    | 49 => none
    | _ => none
  decX
    | 3 => sh3.dec
    | 26 => sh26.dec
    | 38 => sh38.dec
    | 48 => sh48.dec
    | 49 => sh49.dec
    | _ => fun _ => none
  plain
    | 3 => true
    | 26 => false
    | 38 => false
    | 48 => false
    | 49 => false
    | _ => false
theorem gEmpty (e : Nat) (h3 : ¬ e = 3) (h26 : ¬ e = 26) (h38 : ¬ e = 38) (h48 : ¬ e = 48) (h49 : ¬ e = 49) : G e = Empty := by
  unfold G
  split <;> simp_all
theorem envOk : EnvOk Try.prog E where
  decX := by
    intro e cs x h
    by_cases h3 : e = 3
    · subst h3; exact sh3.ok cs x h
    by_cases h26 : e = 26
    · subst h26; exact sh26.ok cs x h
    by_cases h38 : e = 38
    · subst h38; exact sh38.ok cs x h
    by_cases h48 : e = 48
    · subst h48; exact sh48.ok cs x h
    by_cases h49 : e = 49
    · subst h49; exact sh49.ok cs x h
    exact (cast (gEmpty e h3 h26 h38 h48 h49) x).elim

  dec := by
    intro e cs x h c vs hr
    by_cases h3 : e = 3
    · subst h3; rw [show E.enc 3 x = cs from sh3.ok cs x h]; exact hr
    by_cases h26 : e = 26
    · subst h26; rw [show E.enc 26 x = normR [some 3, none] cs from sh26.ok _ x h]; exact normR_ok _ _ _ hr
    by_cases h38 : e = 38
    · subst h38; rw [show E.enc 38 x = normR [some 3, none] cs from sh38.ok _ x h]; exact normR_ok _ _ _ hr
    by_cases h48 : e = 48
    · subst h48; rw [show E.enc 48 x = normR [none, none, some 3] cs from sh48.ok _ x h]; exact normR_ok _ _ _ hr
    by_cases h49 : e = 49
    · subst h49; rw [show E.enc 49 x = normR [none, none, some 3] cs from sh49.ok _ x h]; exact normR_ok _ _ _ hr
    exact (cast (gEmpty e h3 h26 h38 h48 h49) x).elim

  len := by
    intro e x n h
    by_cases h3 : e = 3
    · subst h3; exact Option.some.inj ((by kernel_rfl : some (E.enc 3 x).length = sizeOf? Try.prog 3).trans h)
    by_cases h26 : e = 26
    · subst h26; exact Option.some.inj ((by kernel_rfl : some (E.enc 26 x).length = sizeOf? Try.prog 26).trans h)
    by_cases h38 : e = 38
    · subst h38; exact Option.some.inj ((by kernel_rfl : some (E.enc 38 x).length = sizeOf? Try.prog 38).trans h)
    by_cases h48 : e = 48
    · subst h48; exact Option.some.inj ((by kernel_rfl : some (E.enc 48 x).length = sizeOf? Try.prog 48).trans h)
    by_cases h49 : e = 49
    · subst h49; exact Option.some.inj ((by kernel_rfl : some (E.enc 49 x).length = sizeOf? Try.prog 49).trans h)
    exact (cast (gEmpty e h3 h26 h38 h48 h49) x).elim

  one := by
    intro e x
    by_cases h3 : e = 3
    · subst h3; rfl
    by_cases h26 : e = 26
    · subst h26; rfl
    by_cases h38 : e = 38
    · subst h38; rfl
    by_cases h48 : e = 48
    · subst h48; rfl
    by_cases h49 : e = 49
    · subst h49; rfl
    exact (cast (gEmpty e h3 h26 h38 h48 h49) x).elim

  shut := by
    intro e x
    by_cases h3 : e = 3
    · subst h3; rfl
    by_cases h26 : e = 26
    · subst h26; rfl
    by_cases h38 : e = 38
    · subst h38; rfl
    by_cases h48 : e = 48
    · subst h48; rfl
    by_cases h49 : e = 49
    · subst h49; rfl
    exact (cast (gEmpty e h3 h26 h38 h48 h49) x).elim

  plain := by
    intro e x h
    by_cases h3 : e = 3
    · subst h3; rfl
    by_cases h26 : e = 26
    · subst h26; cases h
    by_cases h38 : e = 38
    · subst h38; cases h
    by_cases h48 : e = 48
    · subst h48; cases h
    by_cases h49 : e = 49
    · subst h49; cases h
    exact (cast (gEmpty e h3 h26 h38 h48 h49) x).elim

  zero := by
    intro e x i z hx hi hz c
    by_cases h3 : e = 3
    · subst h3; obtain rfl := Option.some.inj hx; exact zero_law (by kernel_rfl) rfl hi hz c
    by_cases h26 : e = 26
    · subst h26; cases hx
    by_cases h38 : e = 38
    · subst h38; cases hx
    by_cases h48 : e = 48
    · subst h48; cases hx
    by_cases h49 : e = 49
    · subst h49; cases hx
    exact (cast (gEmpty e h3 h26 h38 h48 h49) x).elim


theorem mixed : Try.prog.follows .mixedOrders = true := by kernel_rfl
end Go.Proofs.Ytemdppcnhlnicaa.Ev
