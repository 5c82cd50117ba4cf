import Derived.Test.YtdjjinfpfjoniaaEvX
import Derived.Test.YtdjjinfpfjoniaaChecked
set_option linter.unusedVariables false
namespace Go.Proofs.Ytdjjinfpfjoniaa.Ev
open Go Go.RowKit
def G : Nat → Type
  | 3 => Int
  | 23 => Int
  | 25 => Int × Int
  | 35 => Int × Int × Bool
  | 36 => Int × Int × Bool
  | 40 => Int × Int × Int × Int × Bool
  | 43 => List (Int × Int)
  | 68 => Int × Int × Int × Int
  | 110 => Int × Int × Bool
  | _ => Empty
def sh3 : Sh (List (AV G)) (G 3) := (Sh.fst (Sh.cons (Sh.int .i64) Sh.nil))
def sh23 : Sh (List (AV G)) (G 23) := (Sh.fst (Sh.cons (Sh.int .i64) Sh.nil))
def sh25 : Sh (List (AV G)) (G 25) := (Sh.cons (Sh.int .i64) (Sh.fst (Sh.cons (Sh.int .i64) Sh.nil)))
def sh35 : Sh (List (AV G)) (G 35) := (Sh.cons (Sh.int .i64) (Sh.cons (Sh.int .u32) (Sh.fst (Sh.cons Sh.bool Sh.nil))))
def sh36 : Sh (List (AV G)) (G 36) := (Sh.cons (Sh.int .i64) (Sh.cons (Sh.int .u32) (Sh.fst (Sh.cons Sh.bool Sh.nil))))
def sh40 : Sh (List (AV G)) (G 40) := (Sh.cons (Sh.int .i64) (Sh.cons (Sh.int .i64) (Sh.cons (Sh.int .i64) (Sh.cons (Sh.int .i64) (Sh.fst (Sh.cons Sh.bool Sh.nil))))))
def sh43 : Sh (List (AV G)) (G 43) := (Sh.fst (Sh.cons (Sh.ros 25) Sh.nil))
def sh68 : Sh (List (AV G)) (G 68) := (Sh.cons (Sh.int .i64) (Sh.cons (Sh.int .i64) (Sh.cons (Sh.int .i64) (Sh.fst (Sh.cons (Sh.int .i64) Sh.nil)))))
def sh110 : Sh (List (AV G)) (G 110) := (Sh.cons (Sh.int .i64) (Sh.cons (Sh.int .i64) (Sh.fst (Sh.cons Sh.bool Sh.nil))))
def E : Env G where
  enc
    | 3 => sh3.enc
    | 23 => sh23.enc
    | 25 => sh25.enc
    | 35 => sh35.enc
    | 36 => sh36.enc
    | 40 => sh40.enc
    | 43 => sh43.enc
    | 68 => sh68.enc
    | 110 => sh110.enc
    | _ => fun _ => []
  dec
    | 3 => sh3.dec
    | 23 => sh23.dec
    | 25 => sh25.dec
    | 35 => sh35.dec
    | 36 => sh36.dec
    | 40 => sh40.dec
    | 43 => fun cs => sh43.dec (normR [some 25] cs)
    | 68 => sh68.dec
    | 110 => sh110.dec
    | _ => fun _ => none
  zero
    | 3 => some ((0 : Int) : Int)
    | 23 => some ((0 : Int) : Int)
    | 25 => some (((0 : Int), (0 : Int)) : Int × Int)
    | 35 => some (((0 : Int), ((0 : Int), false)) : Int × Int × Bool)
    | 36 => some (((0 : Int), ((0 : Int), false)) : Int × Int × Bool)
    | 40 => some (((0 : Int), ((0 : Int), ((0 : Int), ((0 : Int), false)))) : Int × Int × Int × Int × Bool)
    | 43 => none
    | 68 => some (((0 : Int), ((0 : Int), ((0 : Int), (0 : Int)))) : Int × Int × Int × Int)
    | 110 => some (((0 : Int), ((0 : Int), false)) : Int × Int × Bool)
    | _ => none
  plain
    | 3 => true
    | 23 => true
    | 25 => true
    | 35 => true
    | 36 => true
    | 40 => true
    | 43 => false
    | 68 => true
    | 110 => true
    | _ => false
theorem gEmpty (e : Nat) (h3 : ¬ e = 3) (h23 : ¬ e = 23) (h25 : ¬ e = 25) (h35 : ¬ e = 35) (h36 : ¬ e = 36) (h40 : ¬ e = 40) (h43 : ¬ e = 43) (h68 : ¬ e = 68) (h110 : ¬ e = 110) : G e = Empty := by
  unfold G
  split <;> simp_all
theorem envOk : EnvOk Try.prog E where
  dec := by
    intro e cs x h c vs hr
    by_cases h3 : e = 3
    · subst h3; rw [show E.enc 3 x = cs from sh3.ok cs x h]; exact hr
    by_cases h23 : e = 23
    · subst h23; rw [show E.enc 23 x = cs from sh23.ok cs x h]; exact hr
    by_cases h25 : e = 25
    · subst h25; rw [show E.enc 25 x = cs from sh25.ok cs x h]; exact hr
    by_cases h35 : e = 35
    · subst h35; rw [show E.enc 35 x = cs from sh35.ok cs x h]; exact hr
    by_cases h36 : e = 36
    · subst h36; rw [show E.enc 36 x = cs from sh36.ok cs x h]; exact hr
    by_cases h40 : e = 40
    · subst h40; rw [show E.enc 40 x = cs from sh40.ok cs x h]; exact hr
    by_cases h43 : e = 43
    · subst h43; rw [show E.enc 43 x = normR [some 25] cs from sh43.ok _ x h]; exact normR_ok _ _ _ hr
    by_cases h68 : e = 68
    · subst h68; rw [show E.enc 68 x = cs from sh68.ok cs x h]; exact hr
    by_cases h110 : e = 110
    · subst h110; rw [show E.enc 110 x = cs from sh110.ok cs x h]; exact hr
    exact (cast (gEmpty e h3 h23 h25 h35 h36 h40 h43 h68 h110) x).elim

  len := by
    intro e x n h
    by_cases h3 : e = 3
    · subst h3; exact Option.some.inj ((by kernel_rfl : some (E.enc 3 x).length = sizeOf? Try.prog 3).trans h)
    by_cases h23 : e = 23
    · subst h23; exact Option.some.inj ((by kernel_rfl : some (E.enc 23 x).length = sizeOf? Try.prog 23).trans h)
    by_cases h25 : e = 25
    · subst h25; exact Option.some.inj ((by kernel_rfl : some (E.enc 25 x).length = sizeOf? Try.prog 25).trans h)
    by_cases h35 : e = 35
    · subst h35; exact Option.some.inj ((by kernel_rfl : some (E.enc 35 x).length = sizeOf? Try.prog 35).trans h)
    by_cases h36 : e = 36
    · subst h36; exact Option.some.inj ((by kernel_rfl : some (E.enc 36 x).length = sizeOf? Try.prog 36).trans h)
    by_cases h40 : e = 40
    · subst h40; exact Option.some.inj ((by kernel_rfl : some (E.enc 40 x).length = sizeOf? Try.prog 40).trans h)
    by_cases h43 : e = 43
    · subst h43; exact Option.some.inj ((by kernel_rfl : some (E.enc 43 x).length = sizeOf? Try.prog 43).trans h)
    by_cases h68 : e = 68
    · subst h68; exact Option.some.inj ((by kernel_rfl : some (E.enc 68 x).length = sizeOf? Try.prog 68).trans h)
    by_cases h110 : e = 110
    · subst h110; exact Option.some.inj ((by kernel_rfl : some (E.enc 110 x).length = sizeOf? Try.prog 110).trans h)
    exact (cast (gEmpty e h3 h23 h25 h35 h36 h40 h43 h68 h110) x).elim

  one := by
    intro e x
    by_cases h3 : e = 3
    · subst h3; rfl
    by_cases h23 : e = 23
    · subst h23; rfl
    by_cases h25 : e = 25
    · subst h25; rfl
    by_cases h35 : e = 35
    · subst h35; rfl
    by_cases h36 : e = 36
    · subst h36; rfl
    by_cases h40 : e = 40
    · subst h40; rfl
    by_cases h43 : e = 43
    · subst h43; rfl
    by_cases h68 : e = 68
    · subst h68; rfl
    by_cases h110 : e = 110
    · subst h110; rfl
    exact (cast (gEmpty e h3 h23 h25 h35 h36 h40 h43 h68 h110) x).elim

  shut := by
    intro e x
    by_cases h3 : e = 3
    · subst h3; rfl
    by_cases h23 : e = 23
    · subst h23; rfl
    by_cases h25 : e = 25
    · subst h25; rfl
    by_cases h35 : e = 35
    · subst h35; rfl
    by_cases h36 : e = 36
    · subst h36; rfl
    by_cases h40 : e = 40
    · subst h40; rfl
    by_cases h43 : e = 43
    · subst h43; rfl
    by_cases h68 : e = 68
    · subst h68; rfl
    by_cases h110 : e = 110
    · subst h110; rfl
    exact (cast (gEmpty e h3 h23 h25 h35 h36 h40 h43 h68 h110) x).elim

  plain := by
    intro e x h
    by_cases h3 : e = 3
    · subst h3; rfl
    by_cases h23 : e = 23
    · subst h23; rfl
    by_cases h25 : e = 25
    · subst h25; rfl
    by_cases h35 : e = 35
    · subst h35; rfl
    by_cases h36 : e = 36
    · subst h36; rfl
    by_cases h40 : e = 40
    · subst h40; rfl
    by_cases h43 : e = 43
    · subst h43; cases h
    by_cases h68 : e = 68
    · subst h68; rfl
    by_cases h110 : e = 110
    · subst h110; rfl
    exact (cast (gEmpty e h3 h23 h25 h35 h36 h40 h43 h68 h110) x).elim

  zero := by
    intro e x i z hx hi hz c
    by_cases h3 : e = 3
    · subst h3; obtain rfl := Option.some.inj hx; exact zero_law (by kernel_rfl) rfl hi hz c
    by_cases h23 : e = 23
    · subst h23; obtain rfl := Option.some.inj hx; exact zero_law (by kernel_rfl) rfl hi hz c
    by_cases h25 : e = 25
    · subst h25; obtain rfl := Option.some.inj hx; exact zero_law (by kernel_rfl) rfl hi hz c
    by_cases h35 : e = 35
    · subst h35; obtain rfl := Option.some.inj hx; exact zero_law (by kernel_rfl) rfl hi hz c
    by_cases h36 : e = 36
    · subst h36; obtain rfl := Option.some.inj hx; exact zero_law (by kernel_rfl) rfl hi hz c
    by_cases h40 : e = 40
    · subst h40; obtain rfl := Option.some.inj hx; exact zero_law (by kernel_rfl) rfl hi hz c
    by_cases h43 : e = 43
    · subst h43; cases hx
    by_cases h68 : e = 68
    · subst h68; obtain rfl := Option.some.inj hx; exact zero_law (by kernel_rfl) rfl hi hz c
    by_cases h110 : e = 110
    · subst h110; obtain rfl := Option.some.inj hx; exact zero_law (by kernel_rfl) rfl hi hz c
    exact (cast (gEmpty e h3 h23 h25 h35 h36 h40 h43 h68 h110) x).elim


theorem mixed : Try.prog.follows .mixedOrders = true := by kernel_rfl
end Go.Proofs.Ytdjjinfpfjoniaa.Ev
