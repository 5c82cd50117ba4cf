/- Sorting: what is sorted, by what (chapter 43). -/
import Derived.Test.YtgjglkogengmbaaXFns
set_option linter.unusedVariables false
set_option linter.unusedSimpArgs false
namespace Go.Proofs.Ytgjglkogengmbaa.Ev
open Go

abbrev EnT : Type := Int × (List (Int × Bool)) × List Int
abbrev Al : Type := Int
abbrev Cap : Type := List EnT × List Int
abbrev SS (cap : Cap) (d : List Al) : List EnT × List Int × List Int := (cap.1, (d, cap.2))
abbrev TT (cap : Cap) (d : List Al) : List EnT × List Int × List Int := (cap.1, (cap.2, d))
def dz : Al := 0
def c3 (a b : Int) : Int := if a < b then -1 else if a > b then 1 else 0
def bOf (cap : Cap) (x : Al) : Int := cap.2.getD x.toNat 0
def kOf (cap : Cap) (x : Al) : Int := (cap.1.getD x.toNat (0, ([], []))).1
def cmpv (cap : Cap) (x y : Al) : Int := if c3 (bOf cap x) (bOf cap y) ≠ 0 then c3 (bOf cap x) (bOf cap y) else c3 (kOf cap x) (kOf cap y)
def Okc (cap : Cap) (x : Al) : Prop := 0 ≤ x ∧ x.toNat < cap.2.length ∧ x.toNat < cap.1.length
theorem bndH {α β : Type} (a : α) (f : α → Option β) : (some a).bind f = f a := (congrArg (fun x => Option.bind x f) (Eq.refl (some a))).trans (Eq.refl (f a))
theorem cmpT (a b : Int) : F32_0 (a, b) = some (c3 a b) := by
  unfold F32_0 F52_0 c3
  simp only [bndH, bne_self_eq_false, cond_false]
  by_cases h : a < b
  · rw [decide_eq_true h, cond_true, if_pos h]
  · rw [decide_eq_false h, cond_false, if_neg h]
    by_cases h2 : a > b
    · rw [decide_eq_true h2, cond_true, if_pos h2]
    · rw [decide_eq_false h2, cond_false, if_neg h2]
theorem cmpN (a b : Int) : F33_0 (a, b) = some (c3 a b) := by
  unfold F33_0 F53_0 c3
  simp only [bndH, bne_self_eq_false, cond_false]
  by_cases h : a < b
  · rw [decide_eq_true h, cond_true, if_pos h]
  · rw [decide_eq_false h, cond_false, if_neg h]
    by_cases h2 : a > b
    · rw [decide_eq_true h2, cond_true, if_pos h2]
    · rw [decide_eq_false h2, cond_false, if_neg h2]
theorem orK0 (n : Nat) (v) : K31_0 (n + 1) v = B31_0_3 (K31_0 n) v := rfl
theorem or2 (a b : Int) : F31_0 [a, b] = some (if a ≠ 0 then a else b) := by
  have E : ∀ f, E31_0 (K31_0 (f + 3)) [a, b] = some (if a ≠ 0 then a else b) := by
    intro f
    unfold E31_0
    refine (orK0 _ _).trans ?_
    unfold B31_0_3
    rw [show (decide ((0 : Int) < (([a, b] : List Int).length : Int))) = true from rfl]
    simp only [cond_true]
    rw [show rdx ([a, b] : List Int) (0 : Int) = some a from rfl, bndH]
    by_cases h : a = 0
    · subst h
      rw [show ((0 : Int) != 0) = false from rfl, cond_false, show IntKind.wrap .i64 ((0 : Int) + 1) = 1 from rfl, if_neg (by decide)]
      refine (orK0 _ _).trans ?_
      unfold B31_0_3
      rw [show (decide ((1 : Int) < (([0, b] : List Int).length : Int))) = true from rfl]
      simp only [cond_true]
      rw [show rdx ([0, b] : List Int) (1 : Int) = some b from rfl, bndH]
      by_cases h : b = 0
      · subst h
        rw [show ((0 : Int) != 0) = false from rfl, cond_false, show IntKind.wrap .i64 ((1 : Int) + 1) = 2 from rfl]
        refine (orK0 _ _).trans ?_
        unfold B31_0_3
        rfl
      · rw [show (b != 0) = true from bne_iff_ne.2 h, cond_true]
    · rw [show (a != 0) = true from bne_iff_ne.2 h, cond_true, if_pos h]
  exact E 997
theorem rdN {α : Type} {l : List α} {x : Int} (d : α) (h0 : 0 ≤ x) (h : x.toNat < l.length) : rdx l x = some (l.getD x.toNat d) := by
  unfold rdx
  rw [decide_eq_true h0]
  simp [List.getD, List.getElem?_eq_getElem h]
theorem idN {x : Int} {n : Nat} (h0 : 0 ≤ x) (h : x.toNat < n) : idx x n = some x.toNat := by
  unfold idx
  rw [decide_eq_true (by omega)]
theorem cmp_ok (cap : Cap) {x y : Al} (hx : Okc cap x) (hy : Okc cap y) : F30_0 ((x, y), (cap.1, cap.2)) = some (cmpv cap x y, (cap.1, cap.2)) := by
  unfold F30_0 cmpv bOf kOf
  have gx : cap.2[x.toNat]? = some (cap.2.getD x.toNat 0) := by simp [List.getD, List.getElem?_eq_getElem hx.2.1]
  have gy : cap.2[y.toNat]? = some (cap.2.getD y.toNat 0) := by simp [List.getD, List.getElem?_eq_getElem hy.2.1]
  simp only [idN hx.1 hx.2.1, idN hy.1 hy.2.1, bndH, gx, gy, cmpT, rdN (0, ([], [])) hx.1 hx.2.2, rdN (0, ([], [])) hy.1 hy.2.2, cmpN, or2]
def lex (cap : Cap) (x y : Al) : Prop := bOf cap x < bOf cap y ∨ (bOf cap x = bOf cap y ∧ kOf cap x < kOf cap y)
theorem cmp_key (cap : Cap) (x y : Al) : cmpv cap x y < 0 ↔ lex cap x y := by
  unfold cmpv lex c3
  generalize bOf cap x = a
  generalize bOf cap y = b
  generalize kOf cap x = c
  generalize kOf cap y = d
  by_cases h1 : a < b
  · simp [h1]
  · by_cases h2 : a > b
    · simp [h1, h2]; omega
    · have : a = b := by omega
      subst this
      simp
      by_cases h3 : c < d
      · simp [h3]
      · by_cases h4 : c > d
        · simp [h3, h4]
        · simp [h3, h4]
theorem le_tr (cap : Cap) {x y z : Al} (h1 : ¬ cmpv cap y x < 0) (h2 : ¬ cmpv cap z y < 0) : ¬ cmpv cap z x < 0 := by
  rw [cmp_key] at *
  unfold lex at *
  omega
theorem lt_as (cap : Cap) {x y : Al} (h : cmpv cap x y < 0) : ¬ cmpv cap y x < 0 := by
  rw [cmp_key] at *
  unfold lex at *
  omega
end Go.Proofs.Ytgjglkogengmbaa.Ev
