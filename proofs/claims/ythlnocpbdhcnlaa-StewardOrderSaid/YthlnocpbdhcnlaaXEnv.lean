import Derived.Test.YthlnocpbdhcnlaaEvX
import Derived.Test.YthlnocpbdhcnlaaChecked
set_option linter.unusedVariables false
namespace Go.Proofs.Ythlnocpbdhcnlaa.Ev
open Go Go.RowKit
def G : Nat → Type
  | 3 => Int
  | 22 => Int
  | 25 => List (Int × Int × Int × Int)
  | 38 => Int × Int × Bool
  | 43 => Int × Int × Int × Int
  | 87 => Int × Int
  | _ => Empty
def sh3 : Sh (List (AV G)) (G 3) := (Sh.fst (Sh.cons (Sh.int .i64) Sh.nil))
def sh22 : Sh (List (AV G)) (G 22) := (Sh.fst (Sh.cons (Sh.int .i64) Sh.nil))
def sh25 : Sh (List (AV G)) (G 25) := (Sh.fst (Sh.cons (Sh.ros 43) Sh.nil))
def sh38 : Sh (List (AV G)) (G 38) := (Sh.cons (Sh.int .i64) (Sh.cons (Sh.int .i64) (Sh.fst (Sh.cons Sh.bool Sh.nil))))
def sh43 : Sh (List (AV G)) (G 43) := (Sh.cons (Sh.int .i64) (Sh.cons (Sh.int .i64) (Sh.cons (Sh.int .i64) (Sh.fst (Sh.cons (Sh.int .i64) Sh.nil)))))
def sh87 : Sh (List (AV G)) (G 87) := (Sh.cons (Sh.int .i64) (Sh.fst (Sh.cons (Sh.int .i64) Sh.nil)))
def E : Env G where
  enc
    | 3 => sh3.enc
    | 22 => sh22.enc
    | 25 => sh25.enc
    | 38 => sh38.enc
    | 43 => sh43.enc
    | 87 => sh87.enc
    | _ => fun _ => []
  dec
    | 3 => sh3.dec
    | 22 => sh22.dec
    | 25 => fun cs => sh25.dec (normR [some 43] cs)
    | 38 => sh38.dec
    | 43 => sh43.dec
    | 87 => sh87.dec
    | _ => fun _ => none
  zero
    | 3 => some ((0 : Int) : Int)
    | 22 => some ((0 : Int) : Int)
    | 25 => none
    | 38 => some (((0 : Int), ((0 : Int), false)) : Int × Int × Bool)
    | 43 => some (((0 : Int), ((0 : Int), ((0 : Int), (0 : Int)))) : Int × Int × Int × Int)
    | 87 => some (((0 : Int), (0 : Int)) : Int × Int)
    | _ => none
  plain
    | 3 => true
    | 22 => true
    | 25 => false
    | 38 => true
    | 43 => true
    | 87 => true
    | _ => false
theorem gEmpty (e : Nat) (h3 : ¬ e = 3) (h22 : ¬ e = 22) (h25 : ¬ e = 25) (h38 : ¬ e = 38) (h43 : ¬ e = 43) (h87 : ¬ e = 87) : G e = Empty := by
  unfold G
  split <;> simp_all
theorem envOk : EnvOk Try.prog E where
  dec := by
    intro e cs x h c vs hr
    by_cases h3 : e = 3
    · subst h3; rw [show E.enc 3 x = cs from sh3.ok cs x h]; exact hr
    by_cases h22 : e = 22
    · subst h22; rw [show E.enc 22 x = cs from sh22.ok cs x h]; exact hr
    by_cases h25 : e = 25
    · subst h25; rw [show E.enc 25 x = normR [some 43] cs from sh25.ok _ x h]; exact normR_ok _ _ _ hr
    by_cases h38 : e = 38
    · subst h38; rw [show E.enc 38 x = cs from sh38.ok cs x h]; exact hr
    by_cases h43 : e = 43
    · subst h43; rw [show E.enc 43 x = cs from sh43.ok cs x h]; exact hr
    by_cases h87 : e = 87
    · subst h87; rw [show E.enc 87 x = cs from sh87.ok cs x h]; exact hr
    exact (cast (gEmpty e h3 h22 h25 h38 h43 h87) x).elim

  len := by
    intro e x n h
    by_cases h3 : e = 3
    · subst h3; exact Option.some.inj ((by kernel_rfl : some (E.enc 3 x).length = sizeOf? Try.prog 3).trans h)
    by_cases h22 : e = 22
    · subst h22; exact Option.some.inj ((by kernel_rfl : some (E.enc 22 x).length = sizeOf? Try.prog 22).trans h)
    by_cases h25 : e = 25
    · subst h25; exact Option.some.inj ((by kernel_rfl : some (E.enc 25 x).length = sizeOf? Try.prog 25).trans h)
    by_cases h38 : e = 38
    · subst h38; exact Option.some.inj ((by kernel_rfl : some (E.enc 38 x).length = sizeOf? Try.prog 38).trans h)
    by_cases h43 : e = 43
    · subst h43; exact Option.some.inj ((by kernel_rfl : some (E.enc 43 x).length = sizeOf? Try.prog 43).trans h)
    by_cases h87 : e = 87
    · subst h87; exact Option.some.inj ((by kernel_rfl : some (E.enc 87 x).length = sizeOf? Try.prog 87).trans h)
    exact (cast (gEmpty e h3 h22 h25 h38 h43 h87) x).elim

  one := by
    intro e x
    by_cases h3 : e = 3
    · subst h3; rfl
    by_cases h22 : e = 22
    · subst h22; rfl
    by_cases h25 : e = 25
    · subst h25; rfl
    by_cases h38 : e = 38
    · subst h38; rfl
    by_cases h43 : e = 43
    · subst h43; rfl
    by_cases h87 : e = 87
    · subst h87; rfl
    exact (cast (gEmpty e h3 h22 h25 h38 h43 h87) x).elim

  shut := by
    intro e x
    by_cases h3 : e = 3
    · subst h3; rfl
    by_cases h22 : e = 22
    · subst h22; rfl
    by_cases h25 : e = 25
    · subst h25; rfl
    by_cases h38 : e = 38
    · subst h38; rfl
    by_cases h43 : e = 43
    · subst h43; rfl
    by_cases h87 : e = 87
    · subst h87; rfl
    exact (cast (gEmpty e h3 h22 h25 h38 h43 h87) x).elim

  plain := by
    intro e x h
    by_cases h3 : e = 3
    · subst h3; rfl
    by_cases h22 : e = 22
    · subst h22; rfl
    by_cases h25 : e = 25
    · subst h25; cases h
    by_cases h38 : e = 38
    · subst h38; rfl
    by_cases h43 : e = 43
    · subst h43; rfl
    by_cases h87 : e = 87
    · subst h87; rfl
    exact (cast (gEmpty e h3 h22 h25 h38 h43 h87) x).elim

  zero := by
    intro e x i z hx hi hz c
    by_cases h3 : e = 3
    · subst h3; obtain rfl := Option.some.inj hx; exact zero_law (by kernel_rfl) rfl hi hz c
    by_cases h22 : e = 22
    · subst h22; obtain rfl := Option.some.inj hx; exact zero_law (by kernel_rfl) rfl hi hz c
    by_cases h25 : e = 25
    · subst h25; cases hx
    by_cases h38 : e = 38
    · subst h38; obtain rfl := Option.some.inj hx; exact zero_law (by kernel_rfl) rfl hi hz c
    by_cases h43 : e = 43
    · subst h43; obtain rfl := Option.some.inj hx; exact zero_law (by kernel_rfl) rfl hi hz c
    by_cases h87 : e = 87
    · subst h87; obtain rfl := Option.some.inj hx; exact zero_law (by kernel_rfl) rfl hi hz c
    exact (cast (gEmpty e h3 h22 h25 h38 h43 h87) x).elim


theorem mixed : Try.prog.follows .mixedOrders = true := by kernel_rfl
end Go.Proofs.Ythlnocpbdhcnlaa.Ev
