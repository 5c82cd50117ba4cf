import Derived.Test.YthlnocpbdhcnlaaEvX
import Derived.Test.YthlnocpbdhcnlaaChecked
set_option linter.unusedVariables false
namespace Go.Proofs.Ythlnocpbdhcnlaa.Ev
open Go Go.RowKit
def G : Nat → Type
  | 38 => Int × Int × Bool
  | 39 => Int × Int × Bool
  | 43 => Int × Int × Int × Int
  | _ => Empty
def sh38 : Sh (List (AV G)) (G 38) := (Sh.cons (Sh.int .i64) (Sh.cons (Sh.int .i64) (Sh.fst (Sh.cons Sh.bool Sh.nil))))
def sh39 : Sh (List (AV G)) (G 39) := (Sh.cons (Sh.int .i64) (Sh.cons (Sh.int .i64) (Sh.fst (Sh.cons Sh.bool Sh.nil))))
def sh43 : Sh (List (AV G)) (G 43) := (Sh.cons (Sh.int .i64) (Sh.cons (Sh.int .i64) (Sh.cons (Sh.int .i64) (Sh.fst (Sh.cons (Sh.int .i64) Sh.nil)))))
def E : Env G where
  enc
    | 38 => sh38.enc
    | 39 => sh39.enc
    | 43 => sh43.enc
    | _ => fun _ => []
  dec
    | 38 => sh38.dec
    | 39 => sh39.dec
    | 43 => sh43.dec
    | _ => fun _ => none
  zero
    | 38 => some (((0 : Int), ((0 : Int), false)) : Int × Int × Bool)
    | 39 => some (((0 : Int), ((0 : Int), false)) : Int × Int × Bool)
    | 43 => some (((0 : Int), ((0 : Int), ((0 : Int), (0 : Int)))) : Int × Int × Int × Int)
    | _ => none
  plain
    | 38 => true
    | 39 => true
    | 43 => true
    | _ => false
theorem gEmpty (e : Nat) (h38 : ¬ e = 38) (h39 : ¬ e = 39) (h43 : ¬ e = 43) : G e = Empty := by
  unfold G
  split <;> simp_all
theorem envOk : EnvOk Try.prog E where
  dec := by
    intro e cs x h c vs hr
    by_cases h38 : e = 38
    · subst h38; rw [show E.enc 38 x = cs from sh38.ok cs x h]; exact hr
    by_cases h39 : e = 39
    · subst h39; rw [show E.enc 39 x = cs from sh39.ok cs x h]; exact hr
    by_cases h43 : e = 43
    · subst h43; rw [show E.enc 43 x = cs from sh43.ok cs x h]; exact hr
    exact (cast (gEmpty e h38 h39 h43) x).elim

  len := by
    intro e x n h
    by_cases h38 : e = 38
    · subst h38; exact Option.some.inj ((by kernel_rfl : some (E.enc 38 x).length = sizeOf? Try.prog 38).trans h)
    by_cases h39 : e = 39
    · subst h39; exact Option.some.inj ((by kernel_rfl : some (E.enc 39 x).length = sizeOf? Try.prog 39).trans h)
    by_cases h43 : e = 43
    · subst h43; exact Option.some.inj ((by kernel_rfl : some (E.enc 43 x).length = sizeOf? Try.prog 43).trans h)
    exact (cast (gEmpty e h38 h39 h43) x).elim

  one := by
    intro e x
    by_cases h38 : e = 38
    · subst h38; rfl
    by_cases h39 : e = 39
    · subst h39; rfl
    by_cases h43 : e = 43
    · subst h43; rfl
    exact (cast (gEmpty e h38 h39 h43) x).elim

  shut := by
    intro e x
    by_cases h38 : e = 38
    · subst h38; rfl
    by_cases h39 : e = 39
    · subst h39; rfl
    by_cases h43 : e = 43
    · subst h43; rfl
    exact (cast (gEmpty e h38 h39 h43) x).elim

  plain := by
    intro e x h
    by_cases h38 : e = 38
    · subst h38; rfl
    by_cases h39 : e = 39
    · subst h39; rfl
    by_cases h43 : e = 43
    · subst h43; rfl
    exact (cast (gEmpty e h38 h39 h43) x).elim

  zero := by
    intro e x i z hx hi hz c
    by_cases h38 : e = 38
    · subst h38; obtain rfl := Option.some.inj hx; exact zero_law (by kernel_rfl) rfl hi hz c
    by_cases h39 : e = 39
    · subst h39; obtain rfl := Option.some.inj hx; exact zero_law (by kernel_rfl) rfl hi hz c
    by_cases h43 : e = 43
    · subst h43; obtain rfl := Option.some.inj hx; exact zero_law (by kernel_rfl) rfl hi hz c
    exact (cast (gEmpty e h38 h39 h43) x).elim


theorem mixed : Try.prog.follows .mixedOrders = true := by kernel_rfl
end Go.Proofs.Ythlnocpbdhcnlaa.Ev
