import Derived.Test.YtfhhpfhmplgndaaEvX
import Derived.Test.YtfhhpfhmplgndaaChecked
set_option linter.unusedVariables false
namespace Go.Proofs.Ytfhhpfhmplgndaa.Ev
open Go Go.RowKit
def G : Nat → Type
  | 5 => Int
  | 23 => Int
  | 55 => Int × Int × Int × Int × Int × Int × Int × Int
  | 56 => Int × Int × Int × Int × Int × Int × Int × Int
  | _ => Empty
def sh5 : Sh (List (AV G)) (G 5) := (Sh.fst (Sh.cons (Sh.int .u8) Sh.nil))
def sh23 : Sh (List (AV G)) (G 23) := (Sh.fst (Sh.cons (Sh.int .i64) Sh.nil))
def sh55 : Sh (List (AV G)) (G 55) := (Sh.cons (Sh.int .i64) (Sh.cons (Sh.int .i64) (Sh.cons (Sh.int .i64) (Sh.cons (Sh.int .i64) (Sh.cons (Sh.int .i64) (Sh.cons (Sh.int .i64) (Sh.cons (Sh.int .i64) (Sh.fst (Sh.cons (Sh.int .i64) Sh.nil)))))))))
def sh56 : Sh (List (AV G)) (G 56) := (Sh.cons (Sh.int .i64) (Sh.cons (Sh.int .i64) (Sh.cons (Sh.int .i64) (Sh.cons (Sh.int .i64) (Sh.cons (Sh.int .i64) (Sh.cons (Sh.int .i64) (Sh.cons (Sh.int .i64) (Sh.fst (Sh.cons (Sh.int .i64) Sh.nil)))))))))
def E : Env G where
  enc
    | 5 => sh5.enc
    | 23 => sh23.enc
    | 55 => sh55.enc
    | 56 => sh56.enc
    | _ => fun _ => []
  dec
    | 5 => sh5.dec
    | 23 => sh23.dec
    | 55 => sh55.dec
    | 56 => sh56.dec
    | _ => fun _ => none
  zero
    | 5 => some ((0 : Int) : Int)
    | 23 => some ((0 : Int) : Int)
    | 55 => some (((0 : Int), ((0 : Int), ((0 : Int), ((0 : Int), ((0 : Int), ((0 : Int), ((0 : Int), (0 : Int)))))))) : Int × Int × Int × Int × Int × Int × Int × Int)
    | 56 => some (((0 : Int), ((0 : Int), ((0 : Int), ((0 : Int), ((0 : Int), ((0 : Int), ((0 : Int), (0 : Int)))))))) : Int × Int × Int × Int × Int × Int × Int × Int)
    | _ => none
  plain
    | 5 => true
    | 23 => true
    | 55 => true
    | 56 => true
    | _ => false
theorem gEmpty (e : Nat) (h5 : ¬ e = 5) (h23 : ¬ e = 23) (h55 : ¬ e = 55) (h56 : ¬ e = 56) : G e = Empty := by
  unfold G
  split <;> simp_all
theorem envOk : EnvOk Try.prog E where
  dec := by
    intro e cs x h c vs hr
    by_cases h5 : e = 5
    · subst h5; rw [show E.enc 5 x = cs from sh5.ok cs x h]; exact hr
    by_cases h23 : e = 23
    · subst h23; rw [show E.enc 23 x = cs from sh23.ok cs x h]; exact hr
    by_cases h55 : e = 55
    · subst h55; rw [show E.enc 55 x = cs from sh55.ok cs x h]; exact hr
    by_cases h56 : e = 56
    · subst h56; rw [show E.enc 56 x = cs from sh56.ok cs x h]; exact hr
    exact (cast (gEmpty e h5 h23 h55 h56) x).elim

  len := by
    intro e x n h
    by_cases h5 : e = 5
    · subst h5; exact Option.some.inj ((by kernel_rfl : some (E.enc 5 x).length = sizeOf? Try.prog 5).trans h)
    by_cases h23 : e = 23
    · subst h23; exact Option.some.inj ((by kernel_rfl : some (E.enc 23 x).length = sizeOf? Try.prog 23).trans h)
    by_cases h55 : e = 55
    · subst h55; exact Option.some.inj ((by kernel_rfl : some (E.enc 55 x).length = sizeOf? Try.prog 55).trans h)
    by_cases h56 : e = 56
    · subst h56; exact Option.some.inj ((by kernel_rfl : some (E.enc 56 x).length = sizeOf? Try.prog 56).trans h)
    exact (cast (gEmpty e h5 h23 h55 h56) x).elim

  one := by
    intro e x
    by_cases h5 : e = 5
    · subst h5; rfl
    by_cases h23 : e = 23
    · subst h23; rfl
    by_cases h55 : e = 55
    · subst h55; rfl
    by_cases h56 : e = 56
    · subst h56; rfl
    exact (cast (gEmpty e h5 h23 h55 h56) x).elim

  shut := by
    intro e x
    by_cases h5 : e = 5
    · subst h5; rfl
    by_cases h23 : e = 23
    · subst h23; rfl
    by_cases h55 : e = 55
    · subst h55; rfl
    by_cases h56 : e = 56
    · subst h56; rfl
    exact (cast (gEmpty e h5 h23 h55 h56) x).elim

  plain := by
    intro e x h
    by_cases h5 : e = 5
    · subst h5; rfl
    by_cases h23 : e = 23
    · subst h23; rfl
    by_cases h55 : e = 55
    · subst h55; rfl
    by_cases h56 : e = 56
    · subst h56; rfl
    exact (cast (gEmpty e h5 h23 h55 h56) x).elim

  zero := by
    intro e x i z hx hi hz c
    by_cases h5 : e = 5
    · subst h5; obtain rfl := Option.some.inj hx; exact zero_law (by kernel_rfl) rfl hi hz c
    by_cases h23 : e = 23
    · subst h23; obtain rfl := Option.some.inj hx; exact zero_law (by kernel_rfl) rfl hi hz c
    by_cases h55 : e = 55
    · subst h55; obtain rfl := Option.some.inj hx; exact zero_law (by kernel_rfl) rfl hi hz c
    by_cases h56 : e = 56
    · subst h56; obtain rfl := Option.some.inj hx; exact zero_law (by kernel_rfl) rfl hi hz c
    exact (cast (gEmpty e h5 h23 h55 h56) x).elim


theorem mixed : Try.prog.follows .mixedOrders = true := by kernel_rfl
end Go.Proofs.Ytfhhpfhmplgndaa.Ev
