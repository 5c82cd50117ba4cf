import Derived.Test.YtgjglkogengmbaaEvX
import Derived.Test.YtgjglkogengmbaaChecked
set_option linter.unusedVariables false
namespace Go.Proofs.Ytgjglkogengmbaa.Ev
open Go Go.RowKit
def G : Nat → Type
  | 3 => Int
  | 51 => Int
  | 57 => Int × (List (Int × Bool)) × List Int
  | 59 => Int × Bool
  | _ => Empty
def sh3 : Sh (List (AV G)) (G 3) := (Sh.fst (Sh.cons (Sh.int .i64) Sh.nil))
def sh51 : Sh (List (AV G)) (G 51) := (Sh.fst (Sh.cons (Sh.int .i64) Sh.nil))
def sh57 : Sh (List (AV G)) (G 57) := (Sh.cons (Sh.int .i64) (Sh.cons (Sh.ros 59) (Sh.fst (Sh.cons (Sh.ros 51) Sh.nil))))
def sh59 : Sh (List (AV G)) (G 59) := (Sh.cons (Sh.int .i64) (Sh.fst (Sh.cons Sh.bool Sh.nil)))
def E : Env G where
  enc
    | 3 => sh3.enc
    | 51 => sh51.enc
    | 57 => sh57.enc
    | 59 => sh59.enc
    | _ => fun _ => []
  dec
    | 3 => sh3.dec
    | 51 => sh51.dec
    | 57 => fun cs => sh57.dec (normR [none, some 59, some 51] cs)
    | 59 => sh59.dec
    | _ => fun _ => none
  zero
    | 3 => some ((0 : Int) : Int)
    | 51 => some ((0 : Int) : Int)
    | 57 => none
    | 59 => some (((0 : Int), false) : Int × Bool)
    | _ => none
  plain
    | 3 => true
    | 51 => true
    | 57 => false
    | 59 => true
    | _ => false
theorem gEmpty (e : Nat) (h3 : ¬ e = 3) (h51 : ¬ e = 51) (h57 : ¬ e = 57) (h59 : ¬ e = 59) : G e = Empty := by
  unfold G
  split <;> simp_all
theorem envOk : EnvOk Try.prog E where
  dec := by
    intro e cs x h c vs hr
    by_cases h3 : e = 3
    · subst h3; rw [show E.enc 3 x = cs from sh3.ok cs x h]; exact hr
    by_cases h51 : e = 51
    · subst h51; rw [show E.enc 51 x = cs from sh51.ok cs x h]; exact hr
    by_cases h57 : e = 57
    · subst h57; rw [show E.enc 57 x = normR [none, some 59, some 51] cs from sh57.ok _ x h]; exact normR_ok _ _ _ hr
    by_cases h59 : e = 59
    · subst h59; rw [show E.enc 59 x = cs from sh59.ok cs x h]; exact hr
    exact (cast (gEmpty e h3 h51 h57 h59) x).elim

  len := by
    intro e x n h
    by_cases h3 : e = 3
    · subst h3; exact Option.some.inj ((by kernel_rfl : some (E.enc 3 x).length = sizeOf? Try.prog 3).trans h)
    by_cases h51 : e = 51
    · subst h51; exact Option.some.inj ((by kernel_rfl : some (E.enc 51 x).length = sizeOf? Try.prog 51).trans h)
    by_cases h57 : e = 57
    · subst h57; exact Option.some.inj ((by kernel_rfl : some (E.enc 57 x).length = sizeOf? Try.prog 57).trans h)
    by_cases h59 : e = 59
    · subst h59; exact Option.some.inj ((by kernel_rfl : some (E.enc 59 x).length = sizeOf? Try.prog 59).trans h)
    exact (cast (gEmpty e h3 h51 h57 h59) x).elim

  one := by
    intro e x
    by_cases h3 : e = 3
    · subst h3; rfl
    by_cases h51 : e = 51
    · subst h51; rfl
    by_cases h57 : e = 57
    · subst h57; rfl
    by_cases h59 : e = 59
    · subst h59; rfl
    exact (cast (gEmpty e h3 h51 h57 h59) x).elim

  shut := by
    intro e x
    by_cases h3 : e = 3
    · subst h3; rfl
    by_cases h51 : e = 51
    · subst h51; rfl
    by_cases h57 : e = 57
    · subst h57; rfl
    by_cases h59 : e = 59
    · subst h59; rfl
    exact (cast (gEmpty e h3 h51 h57 h59) x).elim

  plain := by
    intro e x h
    by_cases h3 : e = 3
    · subst h3; rfl
    by_cases h51 : e = 51
    · subst h51; rfl
    by_cases h57 : e = 57
    · subst h57; cases h
    by_cases h59 : e = 59
    · subst h59; rfl
    exact (cast (gEmpty e h3 h51 h57 h59) x).elim

  zero := by
    intro e x i z hx hi hz c
    by_cases h3 : e = 3
    · subst h3; obtain rfl := Option.some.inj hx; exact zero_law (by kernel_rfl) rfl hi hz c
    by_cases h51 : e = 51
    · subst h51; obtain rfl := Option.some.inj hx; exact zero_law (by kernel_rfl) rfl hi hz c
    by_cases h57 : e = 57
    · subst h57; cases hx
    by_cases h59 : e = 59
    · subst h59; obtain rfl := Option.some.inj hx; exact zero_law (by kernel_rfl) rfl hi hz c
    exact (cast (gEmpty e h3 h51 h57 h59) x).elim


theorem mixed : Try.prog.follows .mixedOrders = true := by kernel_rfl
end Go.Proofs.Ytgjglkogengmbaa.Ev
