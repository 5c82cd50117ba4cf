import Derived.Test.YthlnocpbdhcnlaaEvU
import Derived.Test.YthlnocpbdhcnlaaChecked
set_option linter.unusedVariables false
namespace Go.Proofs.Ythlnocpbdhcnlaa.Ev
open Go Go.RowKit
def G : Nat → Type
  | 3 => Int
  | 22 => Int
  | 80 => Int × Int × Int
  | _ => Empty
def sh3 : Sh (List (AV G)) (G 3) := (Sh.fst (Sh.cons (Sh.int .i64) Sh.nil))
def sh22 : Sh (List (AV G)) (G 22) := (Sh.fst (Sh.cons (Sh.int .i64) Sh.nil))
def sh80 : Sh (List (AV G)) (G 80) := (Sh.cons (Sh.int .i64) (Sh.cons (Sh.int .i64) (Sh.fst (Sh.cons (Sh.int .i64) Sh.nil))))
def E : Env G where
  enc
    | 3 => sh3.enc
    | 22 => sh22.enc
    | 80 => sh80.enc
    | _ => fun _ => []
  dec
    | 3 => sh3.dec
    | 22 => sh22.dec
    | 80 => sh80.dec
    | _ => fun _ => none
  zero
    | 3 => some ((0 : Int) : Int)
    | 22 => some ((0 : Int) : Int)
    | 80 => some (((0 : Int), ((0 : Int), (0 : Int))) : Int × Int × Int)
    | _ => none
  plain
    | 3 => true
    | 22 => true
    | 80 => true
    | _ => false
theorem gEmpty (e : Nat) (h3 : ¬ e = 3) (h22 : ¬ e = 22) (h80 : ¬ e = 80) : G e = Empty := by
  unfold G
  split <;> simp_all
theorem envOk : EnvOk Try.prog E where
  dec := by
    intro e cs x h c vs hr
    by_cases h3 : e = 3
    · subst h3; rw [show E.enc 3 x = cs from sh3.ok cs x h]; exact hr
    by_cases h22 : e = 22
    · subst h22; rw [show E.enc 22 x = cs from sh22.ok cs x h]; exact hr
    by_cases h80 : e = 80
    · subst h80; rw [show E.enc 80 x = cs from sh80.ok cs x h]; exact hr
    exact (cast (gEmpty e h3 h22 h80) x).elim

  len := by
    intro e x n h
    by_cases h3 : e = 3
    · subst h3; exact Option.some.inj ((by kernel_rfl : some (E.enc 3 x).length = sizeOf? Try.prog 3).trans h)
    by_cases h22 : e = 22
    · subst h22; exact Option.some.inj ((by kernel_rfl : some (E.enc 22 x).length = sizeOf? Try.prog 22).trans h)
    by_cases h80 : e = 80
    · subst h80; exact Option.some.inj ((by kernel_rfl : some (E.enc 80 x).length = sizeOf? Try.prog 80).trans h)
    exact (cast (gEmpty e h3 h22 h80) x).elim

  one := by
    intro e x
    by_cases h3 : e = 3
    · subst h3; rfl
    by_cases h22 : e = 22
    · subst h22; rfl
    by_cases h80 : e = 80
    · subst h80; rfl
    exact (cast (gEmpty e h3 h22 h80) x).elim

  shut := by
    intro e x
    by_cases h3 : e = 3
    · subst h3; rfl
    by_cases h22 : e = 22
    · subst h22; rfl
    by_cases h80 : e = 80
    · subst h80; rfl
    exact (cast (gEmpty e h3 h22 h80) x).elim

  plain := by
    intro e x h
    by_cases h3 : e = 3
    · subst h3; rfl
    by_cases h22 : e = 22
    · subst h22; rfl
    by_cases h80 : e = 80
    · subst h80; rfl
    exact (cast (gEmpty e h3 h22 h80) x).elim

  zero := by
    intro e x i z hx hi hz c
    by_cases h3 : e = 3
    · subst h3; obtain rfl := Option.some.inj hx; exact zero_law (by kernel_rfl) rfl hi hz c
    by_cases h22 : e = 22
    · subst h22; obtain rfl := Option.some.inj hx; exact zero_law (by kernel_rfl) rfl hi hz c
    by_cases h80 : e = 80
    · subst h80; obtain rfl := Option.some.inj hx; exact zero_law (by kernel_rfl) rfl hi hz c
    exact (cast (gEmpty e h3 h22 h80) x).elim


theorem mixed : Try.prog.follows .mixedOrders = true := by kernel_rfl
end Go.Proofs.Ythlnocpbdhcnlaa.Ev
