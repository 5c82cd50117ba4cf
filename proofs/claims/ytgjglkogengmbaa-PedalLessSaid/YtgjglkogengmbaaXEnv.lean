import Derived.Test.YtgjglkogengmbaaEvX
import Derived.Test.YtgjglkogengmbaaChecked
set_option linter.unusedVariables false
namespace Go.Proofs.Ytgjglkogengmbaa.Ev
open Go Go.RowKit
def G : Nat → Type
  | 22 => Int
  | 30 => List Int
  | 139 => Int × Int
  | _ => Empty
def sh22 : Sh (List (AV G)) (G 22) := (Sh.fst (Sh.cons (Sh.int .i64) Sh.nil))
def sh30 : Sh (List (AV G)) (G 30) := (Sh.fst (Sh.cons (Sh.ros 22) Sh.nil))
def sh139 : Sh (List (AV G)) (G 139) := (Sh.cons (Sh.int .i64) (Sh.fst (Sh.cons (Sh.int .i64) Sh.nil)))
def E : Env G where
  enc
    | 22 => sh22.enc
    | 30 => sh30.enc
    | 139 => sh139.enc
    | _ => fun _ => []
  dec
    | 22 => sh22.dec
    | 30 => sh30.dec
    | 139 => sh139.dec
    | _ => fun _ => none
  zero
    | 22 => some ((0 : Int) : Int)
    | 30 => none
    | 139 => some (((0 : Int), (0 : Int)) : Int × Int)
    | _ => none
  plain
    | 22 => true
    | 30 => false
    | 139 => true
    | _ => false
theorem gEmpty (e : Nat) (h22 : ¬ e = 22) (h30 : ¬ e = 30) (h139 : ¬ e = 139) : G e = Empty := by
  unfold G
  split <;> simp_all
theorem envOk : EnvOk Try.prog E where
  dec := by
    intro e cs x h c vs hr
    by_cases h22 : e = 22
    · subst h22; rw [show E.enc 22 x = cs from sh22.ok cs x h]; exact hr
    by_cases h30 : e = 30
    · subst h30; rw [show E.enc 30 x = cs from sh30.ok cs x h]; exact hr
    by_cases h139 : e = 139
    · subst h139; rw [show E.enc 139 x = cs from sh139.ok cs x h]; exact hr
    exact (cast (gEmpty e h22 h30 h139) x).elim

  len := by
    intro e x n h
    by_cases h22 : e = 22
    · subst h22; exact Option.some.inj ((by kernel_rfl : some (E.enc 22 x).length = sizeOf? Try.prog 22).trans h)
    by_cases h30 : e = 30
    · subst h30; exact Option.some.inj ((by kernel_rfl : some (E.enc 30 x).length = sizeOf? Try.prog 30).trans h)
    by_cases h139 : e = 139
    · subst h139; exact Option.some.inj ((by kernel_rfl : some (E.enc 139 x).length = sizeOf? Try.prog 139).trans h)
    exact (cast (gEmpty e h22 h30 h139) x).elim

  one := by
    intro e x
    by_cases h22 : e = 22
    · subst h22; rfl
    by_cases h30 : e = 30
    · subst h30; rfl
    by_cases h139 : e = 139
    · subst h139; rfl
    exact (cast (gEmpty e h22 h30 h139) x).elim

  shut := by
    intro e x
    by_cases h22 : e = 22
    · subst h22; rfl
    by_cases h30 : e = 30
    · subst h30; rfl
    by_cases h139 : e = 139
    · subst h139; rfl
    exact (cast (gEmpty e h22 h30 h139) x).elim

  plain := by
    intro e x h
    by_cases h22 : e = 22
    · subst h22; rfl
    by_cases h30 : e = 30
    · subst h30; cases h
    by_cases h139 : e = 139
    · subst h139; rfl
    exact (cast (gEmpty e h22 h30 h139) x).elim

  zero := by
    intro e x i z hx hi hz c
    by_cases h22 : e = 22
    · subst h22; obtain rfl := Option.some.inj hx; exact zero_law (by kernel_rfl) rfl hi hz c
    by_cases h30 : e = 30
    · subst h30; cases hx
    by_cases h139 : e = 139
    · subst h139; obtain rfl := Option.some.inj hx; exact zero_law (by kernel_rfl) rfl hi hz c
    exact (cast (gEmpty e h22 h30 h139) x).elim


theorem mixed : Try.prog.follows .mixedOrders = true := by kernel_rfl
end Go.Proofs.Ytgjglkogengmbaa.Ev
