import Derived.Test.YtggfniipidepdaaEvX
import Derived.Test.YtggfniipidepdaaChecked
set_option linter.unusedVariables false
namespace Go.Proofs.Ytggfniipidepdaa.Ev
open Go Go.RowKit
def G : Nat → Type
  | 5 => Int
  | 29 => Int × Int × Int × Int × Int × Bool × Bool
  | _ => Empty
def sh5 : Sh (List (AV G)) (G 5) := (Sh.fst (Sh.cons (Sh.int .u8) Sh.nil))
def sh29 : Sh (List (AV G)) (G 29) := (Sh.cons (Sh.int .i64) (Sh.cons (Sh.int .i64) (Sh.cons (Sh.int .i64) (Sh.cons (Sh.int .i64) (Sh.cons (Sh.int .i64) (Sh.cons Sh.bool (Sh.fst (Sh.cons Sh.bool Sh.nil))))))))
def E : Env G where
  enc
    | 5 => sh5.enc
    | 29 => sh29.enc
    | _ => fun _ => []
  dec
    | 5 => sh5.dec
    | 29 => sh29.dec
    | _ => fun _ => none
  zero
    | 5 => some ((0 : Int) : Int)
    | 29 => some (((0 : Int), ((0 : Int), ((0 : Int), ((0 : Int), ((0 : Int), (false, false)))))) : Int × Int × Int × Int × Int × Bool × Bool)
    | _ => none
  plain
    | 5 => true
    | 29 => true
    | _ => false
theorem gEmpty (e : Nat) (h5 : ¬ e = 5) (h29 : ¬ e = 29) : G e = Empty := by
  unfold G
  split <;> simp_all
theorem envOk : EnvOk Try.prog E where
  dec := by
    intro e cs x h c vs hr
    by_cases h5 : e = 5
    · subst h5; rw [show E.enc 5 x = cs from sh5.ok cs x h]; exact hr
    by_cases h29 : e = 29
    · subst h29; rw [show E.enc 29 x = cs from sh29.ok cs x h]; exact hr
    exact (cast (gEmpty e h5 h29) x).elim

  len := by
    intro e x n h
    by_cases h5 : e = 5
    · subst h5; exact Option.some.inj ((by kernel_rfl : some (E.enc 5 x).length = sizeOf? Try.prog 5).trans h)
    by_cases h29 : e = 29
    · subst h29; exact Option.some.inj ((by kernel_rfl : some (E.enc 29 x).length = sizeOf? Try.prog 29).trans h)
    exact (cast (gEmpty e h5 h29) x).elim

  one := by
    intro e x
    by_cases h5 : e = 5
    · subst h5; rfl
    by_cases h29 : e = 29
    · subst h29; rfl
    exact (cast (gEmpty e h5 h29) x).elim

  shut := by
    intro e x
    by_cases h5 : e = 5
    · subst h5; rfl
    by_cases h29 : e = 29
    · subst h29; rfl
    exact (cast (gEmpty e h5 h29) x).elim

  plain := by
    intro e x h
    by_cases h5 : e = 5
    · subst h5; rfl
    by_cases h29 : e = 29
    · subst h29; rfl
    exact (cast (gEmpty e h5 h29) x).elim

  zero := by
    intro e x i z hx hi hz c
    by_cases h5 : e = 5
    · subst h5; obtain rfl := Option.some.inj hx; exact zero_law (by kernel_rfl) rfl hi hz c
    by_cases h29 : e = 29
    · subst h29; obtain rfl := Option.some.inj hx; exact zero_law (by kernel_rfl) rfl hi hz c
    exact (cast (gEmpty e h5 h29) x).elim


theorem mixed : Try.prog.follows .mixedOrders = true := by kernel_rfl
end Go.Proofs.Ytggfniipidepdaa.Ev
