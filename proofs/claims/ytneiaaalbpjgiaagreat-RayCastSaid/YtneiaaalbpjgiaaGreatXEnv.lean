import Derived.Test.YtneiaaalbpjgiaaGreatEvX
import Derived.Test.YtneiaaalbpjgiaaGreatChecked
set_option linter.unusedVariables false
namespace Go.Proofs.YtneiaaalbpjgiaaGreat.Ev
open Go Go.RowKit
def G : Nat → Type
  | 3 => Int
  | 22 => Int
  | 24 => Int × Int
  | 28 => List (Int × Int)
  | 64 => Int × Int × Bool
  | 187 => Int × Int × Int × Int × Bool
  | _ => Empty
def sh3 : Sh (List (AV G)) (G 3) := (Sh.fst (Sh.cons (Sh.int .i64) Sh.nil))
def sh22 : Sh (List (AV G)) (G 22) := (Sh.fst (Sh.cons (Sh.int .i64) Sh.nil))
def sh24 : Sh (List (AV G)) (G 24) := (Sh.cons (Sh.int .i64) (Sh.fst (Sh.cons (Sh.int .i64) Sh.nil)))
def sh28 : Sh (List (AV G)) (G 28) := (Sh.fst (Sh.cons (Sh.ros 24) Sh.nil))
def sh64 : Sh (List (AV G)) (G 64) := (Sh.cons (Sh.int .i64) (Sh.cons (Sh.int .i64) (Sh.fst (Sh.cons Sh.bool Sh.nil))))
def sh187 : Sh (List (AV G)) (G 187) := (Sh.cons (Sh.int .i64) (Sh.cons (Sh.int .i64) (Sh.cons (Sh.int .i64) (Sh.cons (Sh.int .i64) (Sh.fst (Sh.cons Sh.bool Sh.nil))))))
def E : Env G where
  enc
    | 3 => sh3.enc
    | 22 => sh22.enc
    | 24 => sh24.enc
    | 28 => sh28.enc
    | 64 => sh64.enc
    | 187 => sh187.enc
    | _ => fun _ => []
  dec
    | 3 => sh3.dec
    | 22 => sh22.dec
    | 24 => sh24.dec
    | 28 => fun cs => sh28.dec (normR [some 24] cs)
    | 64 => sh64.dec
    | 187 => sh187.dec
    | _ => fun _ => none
  zero
    | 3 => some ((0 : Int) : Int)
    | 22 => some ((0 : Int) : Int)
    | 24 => some (((0 : Int), (0 : Int)) : Int × Int)
    | 28 => none
    | 64 => some (((0 : Int), ((0 : Int), false)) : Int × Int × Bool)
    | 187 => some (((0 : Int), ((0 : Int), ((0 : Int), ((0 : Int), false)))) : Int × Int × Int × Int × Bool)
    | _ => none
  plain
    | 3 => true
    | 22 => true
    | 24 => true
    | 28 => false
    | 64 => true
    | 187 => true
    | _ => false
theorem gEmpty (e : Nat) (h3 : ¬ e = 3) (h22 : ¬ e = 22) (h24 : ¬ e = 24) (h28 : ¬ e = 28) (h64 : ¬ e = 64) (h187 : ¬ e = 187) : G e = Empty := by
  unfold G
  split <;> simp_all
theorem envOk : EnvOk Tryz.prog E where
  dec := by
    intro e cs x h c vs hr
    by_cases h3 : e = 3
    · subst h3; rw [show E.enc 3 x = cs from sh3.ok cs x h]; exact hr
    by_cases h22 : e = 22
    · subst h22; rw [show E.enc 22 x = cs from sh22.ok cs x h]; exact hr
    by_cases h24 : e = 24
    · subst h24; rw [show E.enc 24 x = cs from sh24.ok cs x h]; exact hr
    by_cases h28 : e = 28
    · subst h28; rw [show E.enc 28 x = normR [some 24] cs from sh28.ok _ x h]; exact normR_ok _ _ _ hr
    by_cases h64 : e = 64
    · subst h64; rw [show E.enc 64 x = cs from sh64.ok cs x h]; exact hr
    by_cases h187 : e = 187
    · subst h187; rw [show E.enc 187 x = cs from sh187.ok cs x h]; exact hr
    exact (cast (gEmpty e h3 h22 h24 h28 h64 h187) x).elim

  len := by
    intro e x n h
    by_cases h3 : e = 3
    · subst h3; exact Option.some.inj ((by kernel_rfl : some (E.enc 3 x).length = sizeOf? Tryz.prog 3).trans h)
    by_cases h22 : e = 22
    · subst h22; exact Option.some.inj ((by kernel_rfl : some (E.enc 22 x).length = sizeOf? Tryz.prog 22).trans h)
    by_cases h24 : e = 24
    · subst h24; exact Option.some.inj ((by kernel_rfl : some (E.enc 24 x).length = sizeOf? Tryz.prog 24).trans h)
    by_cases h28 : e = 28
    · subst h28; exact Option.some.inj ((by kernel_rfl : some (E.enc 28 x).length = sizeOf? Tryz.prog 28).trans h)
    by_cases h64 : e = 64
    · subst h64; exact Option.some.inj ((by kernel_rfl : some (E.enc 64 x).length = sizeOf? Tryz.prog 64).trans h)
    by_cases h187 : e = 187
    · subst h187; exact Option.some.inj ((by kernel_rfl : some (E.enc 187 x).length = sizeOf? Tryz.prog 187).trans h)
    exact (cast (gEmpty e h3 h22 h24 h28 h64 h187) x).elim

  one := by
    intro e x
    by_cases h3 : e = 3
    · subst h3; rfl
    by_cases h22 : e = 22
    · subst h22; rfl
    by_cases h24 : e = 24
    · subst h24; rfl
    by_cases h28 : e = 28
    · subst h28; rfl
    by_cases h64 : e = 64
    · subst h64; rfl
    by_cases h187 : e = 187
    · subst h187; rfl
    exact (cast (gEmpty e h3 h22 h24 h28 h64 h187) x).elim

  shut := by
    intro e x
    by_cases h3 : e = 3
    · subst h3; rfl
    by_cases h22 : e = 22
    · subst h22; rfl
    by_cases h24 : e = 24
    · subst h24; rfl
    by_cases h28 : e = 28
    · subst h28; rfl
    by_cases h64 : e = 64
    · subst h64; rfl
    by_cases h187 : e = 187
    · subst h187; rfl
    exact (cast (gEmpty e h3 h22 h24 h28 h64 h187) x).elim

  plain := by
    intro e x h
    by_cases h3 : e = 3
    · subst h3; rfl
    by_cases h22 : e = 22
    · subst h22; rfl
    by_cases h24 : e = 24
    · subst h24; rfl
    by_cases h28 : e = 28
    · subst h28; cases h
    by_cases h64 : e = 64
    · subst h64; rfl
    by_cases h187 : e = 187
    · subst h187; rfl
    exact (cast (gEmpty e h3 h22 h24 h28 h64 h187) x).elim

  zero := by
    intro e x i z hx hi hz c
    by_cases h3 : e = 3
    · subst h3; obtain rfl := Option.some.inj hx; exact zero_law (by kernel_rfl) rfl hi hz c
    by_cases h22 : e = 22
    · subst h22; obtain rfl := Option.some.inj hx; exact zero_law (by kernel_rfl) rfl hi hz c
    by_cases h24 : e = 24
    · subst h24; obtain rfl := Option.some.inj hx; exact zero_law (by kernel_rfl) rfl hi hz c
    by_cases h28 : e = 28
    · subst h28; cases hx
    by_cases h64 : e = 64
    · subst h64; obtain rfl := Option.some.inj hx; exact zero_law (by kernel_rfl) rfl hi hz c
    by_cases h187 : e = 187
    · subst h187; obtain rfl := Option.some.inj hx; exact zero_law (by kernel_rfl) rfl hi hz c
    exact (cast (gEmpty e h3 h22 h24 h28 h64 h187) x).elim


theorem mixed : Tryz.prog.follows .mixedOrders = true := by kernel_rfl
end Go.Proofs.YtneiaaalbpjgiaaGreat.Ev
