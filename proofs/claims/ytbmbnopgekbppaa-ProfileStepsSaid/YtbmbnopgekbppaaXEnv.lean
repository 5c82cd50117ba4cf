import Derived.Test.YtbmbnopgekbppaaEvX
import Derived.Test.YtbmbnopgekbppaaChecked
set_option linter.unusedVariables false
namespace Go.Proofs.Ytbmbnopgekbppaa.Ev
open Go Go.RowKit
def G : Nat → Type
  | 22 => Int
  | 24 => Int × Int
  | _ => Empty
def sh22 : Sh (List (AV G)) (G 22) := (Sh.fst (Sh.cons (Sh.int .i64) Sh.nil))
def sh24 : Sh (List (AV G)) (G 24) := (Sh.cons (Sh.int .i64) (Sh.fst (Sh.cons (Sh.int .i64) Sh.nil)))
def E : Env G where
  enc
    | 22 => sh22.enc
    | 24 => sh24.enc
    | _ => fun _ => []
  dec
    | 22 => sh22.dec
    | 24 => sh24.dec
    | _ => fun _ => none
  zero
    | 22 => some ((0 : Int) : Int)
    | 24 => some (((0 : Int), (0 : Int)) : Int × Int)
    | _ => none
  plain
    | 22 => true
    | 24 => true
    | _ => false
theorem gEmpty (e : Nat) (h22 : ¬ e = 22) (h24 : ¬ e = 24) : G e = Empty := by
  unfold G
  split <;> simp_all
theorem envOk : EnvOk Try.prog E where
  dec := by
    intro e cs x h c vs hr
    by_cases h22 : e = 22
    · subst h22; rw [show E.enc 22 x = cs from sh22.ok cs x h]; exact hr
    by_cases h24 : e = 24
    · subst h24; rw [show E.enc 24 x = cs from sh24.ok cs x h]; exact hr
    exact (cast (gEmpty e h22 h24) x).elim

  len := by
    intro e x n h
    by_cases h22 : e = 22
    · subst h22; exact Option.some.inj ((by kernel_rfl : some (E.enc 22 x).length = sizeOf? Try.prog 22).trans h)
    by_cases h24 : e = 24
    · subst h24; exact Option.some.inj ((by kernel_rfl : some (E.enc 24 x).length = sizeOf? Try.prog 24).trans h)
    exact (cast (gEmpty e h22 h24) x).elim

  one := by
    intro e x
    by_cases h22 : e = 22
    · subst h22; rfl
    by_cases h24 : e = 24
    · subst h24; rfl
    exact (cast (gEmpty e h22 h24) x).elim

  shut := by
    intro e x
    by_cases h22 : e = 22
    · subst h22; rfl
    by_cases h24 : e = 24
    · subst h24; rfl
    exact (cast (gEmpty e h22 h24) x).elim

  plain := by
    intro e x h
    by_cases h22 : e = 22
    · subst h22; rfl
    by_cases h24 : e = 24
    · subst h24; rfl
    exact (cast (gEmpty e h22 h24) x).elim

  zero := by
    intro e x i z hx hi hz c
    by_cases h22 : e = 22
    · subst h22; obtain rfl := Option.some.inj hx; exact zero_law (by kernel_rfl) rfl hi hz c
    by_cases h24 : e = 24
    · subst h24; obtain rfl := Option.some.inj hx; exact zero_law (by kernel_rfl) rfl hi hz c
    exact (cast (gEmpty e h22 h24) x).elim


theorem mixed : Try.prog.follows .mixedOrders = true := by kernel_rfl
end Go.Proofs.Ytbmbnopgekbppaa.Ev
