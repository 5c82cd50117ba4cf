/- Sorting: what is sorted, by what (chapter 44). -/
import Derived.Test.YthlnocpbdhcnlaaXFns
set_option linter.unusedVariables false
set_option linter.unusedSimpArgs false
namespace Go.Proofs.Ythlnocpbdhcnlaa.Ev
open Go

abbrev Al : Type := Int × Int
abbrev Cap : Type := Unit
abbrev SS (cap : Cap) (d : List Al) : List Al := d
abbrev TT (cap : Cap) (d : List Al) : List Al := d
def dz : Al := (0, 0)
def cmpv (cap : Cap) (x y : Al) : Int := if x.2 < y.2 then -1 else if x.2 > y.2 then 1 else 0
def Okc (cap : Cap) (x : Al) : Prop := True
theorem cmp_ok (cap : Cap) {x y : Al} (hx : Okc cap x) (hy : Okc cap y) : F43_0 (x, y) = some (cmpv cap x y) := by
  unfold F43_0 cmpv
  simp only []
  by_cases h : x.2 < y.2
  · rw [decide_eq_true h, cond_true, if_pos h]
  · rw [decide_eq_false h, cond_false, if_neg h]
    by_cases h2 : x.2 > y.2
    · rw [decide_eq_true h2, cond_true, if_pos h2]
    · rw [decide_eq_false h2, cond_false, if_neg h2]
theorem cmp_key (cap : Cap) (x y : Al) : cmpv cap x y < 0 ↔ x.2 < y.2 := by unfold cmpv; split <;> (try split) <;> omega
theorem le_tr (cap : Cap) {x y z : Al} (h1 : ¬ cmpv cap y x < 0) (h2 : ¬ cmpv cap z y < 0) : ¬ cmpv cap z x < 0 := by rw [cmp_key] at *; omega
theorem lt_as (cap : Cap) {x y : Al} (h : cmpv cap x y < 0) : ¬ cmpv cap y x < 0 := by rw [cmp_key] at *; omega
end Go.Proofs.Ythlnocpbdhcnlaa.Ev
