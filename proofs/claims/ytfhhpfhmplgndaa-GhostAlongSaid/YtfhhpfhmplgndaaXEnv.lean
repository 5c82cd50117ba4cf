import Derived.Test.YtfhhpfhmplgndaaEvX
import Derived.Test.YtfhhpfhmplgndaaChecked
set_option linter.unusedVariables false
namespace Go.Proofs.Ytfhhpfhmplgndaa.Ev
open Go Go.RowKit
def G : Nat → Type
  | 3 => Int
  | 23 => Int
  | 69 => Int × Int
  | _ => Empty
def sh3 : Sh (List (AV G)) (G 3) := (Sh.fst (Sh.cons (Sh.int .i64) Sh.nil))
def sh23 : Sh (List (AV G)) (G 23) := (Sh.fst (Sh.cons (Sh.int .i64) Sh.nil))
def sh69 : Sh (List (AV G)) (G 69) := (Sh.cons (Sh.int .i64) (Sh.fst (Sh.cons (Sh.int .i64) Sh.nil)))
def E : Env G where
  enc
    | 3 => sh3.enc
    | 23 => sh23.enc
    | 69 => sh69.enc
    | _ => fun _ => []
  dec
    | 3 => sh3.dec
    | 23 => sh23.dec
    | 69 => sh69.dec
    | _ => fun _ => none
  zero
    | 3 => some ((0 : Int) : Int)
    | 23 => some ((0 : Int) : Int)
    | 69 => some (((0 : Int), (0 : Int)) : Int × Int)
    | _ => none
  plain
    | 3 => true
    | 23 => true
    | 69 => true
    | _ => false
theorem gEmpty (e : Nat) (h3 : ¬ e = 3) (h23 : ¬ e = 23) (h69 : ¬ e = 69) : G e = Empty := by
  unfold G
  split <;> simp_all
theorem envOk : EnvOk Try.prog E where
  dec := by
    intro e cs x h c vs hr
    by_cases h3 : e = 3
    · subst h3; rw [show E.enc 3 x = cs from sh3.ok cs x h]; exact hr
    by_cases h23 : e = 23
    · subst h23; rw [show E.enc 23 x = cs from sh23.ok cs x h]; exact hr
    by_cases h69 : e = 69
    · subst h69; rw [show E.enc 69 x = cs from sh69.ok cs x h]; exact hr
    exact (cast (gEmpty e h3 h23 h69) x).elim

  len := by
    intro e x n h
    by_cases h3 : e = 3
    · subst h3; exact Option.some.inj ((by kernel_rfl : some (E.enc 3 x).length = sizeOf? Try.prog 3).trans h)
    by_cases h23 : e = 23
    · subst h23; exact Option.some.inj ((by kernel_rfl : some (E.enc 23 x).length = sizeOf? Try.prog 23).trans h)
    by_cases h69 : e = 69
    · subst h69; exact Option.some.inj ((by kernel_rfl : some (E.enc 69 x).length = sizeOf? Try.prog 69).trans h)
    exact (cast (gEmpty e h3 h23 h69) x).elim

  one := by
    intro e x
    by_cases h3 : e = 3
    · subst h3; rfl
    by_cases h23 : e = 23
    · subst h23; rfl
    by_cases h69 : e = 69
    · subst h69; rfl
    exact (cast (gEmpty e h3 h23 h69) x).elim

  shut := by
    intro e x
    by_cases h3 : e = 3
    · subst h3; rfl
    by_cases h23 : e = 23
    · subst h23; rfl
    by_cases h69 : e = 69
    · subst h69; rfl
    exact (cast (gEmpty e h3 h23 h69) x).elim

  plain := by
    intro e x h
    by_cases h3 : e = 3
    · subst h3; rfl
    by_cases h23 : e = 23
    · subst h23; rfl
    by_cases h69 : e = 69
    · subst h69; rfl
    exact (cast (gEmpty e h3 h23 h69) x).elim

  zero := by
    intro e x i z hx hi hz c
    by_cases h3 : e = 3
    · subst h3; obtain rfl := Option.some.inj hx; exact zero_law (by kernel_rfl) rfl hi hz c
    by_cases h23 : e = 23
    · subst h23; obtain rfl := Option.some.inj hx; exact zero_law (by kernel_rfl) rfl hi hz c
    by_cases h69 : e = 69
    · subst h69; obtain rfl := Option.some.inj hx; exact zero_law (by kernel_rfl) rfl hi hz c
    exact (cast (gEmpty e h3 h23 h69) x).elim


theorem mixed : Try.prog.follows .mixedOrders = true := by kernel_rfl
end Go.Proofs.Ytfhhpfhmplgndaa.Ev
