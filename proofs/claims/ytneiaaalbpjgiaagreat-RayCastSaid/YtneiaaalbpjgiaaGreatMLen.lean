/- Lengths: the program's and the document's. -/
import Derived.Test.YtneiaaalbpjgiaaGreatMRoot
import Derived.Test.YtneiaaalbpjgiaaGreatMFx
import Derived.Test.YtneiaaalbpjgiaaGreatMRef
set_option linter.unusedVariables false
set_option linter.unusedSimpArgs false
namespace Go.Proofs.YtneiaaalbpjgiaaGreat.Ev
open Go

theorem add1_no {a b : Int} (ha : 0 ≤ a) (hb : 0 ≤ b) (ha' : a ≤ 170141183460469231731687303715884105728) (hb' : b ≤ 170141183460469231731687303715884105728) (hs : 170141183460469231731687303715884105727 < a + b) (hu : a + b ≤ 340282366920938463463374607431768211455) :
    F98_0 (nd a, nd b) = some ((false, (0, (0, (0, 0)))), false) := by
  have na : nd a = (false, dg a) := by unfold nd; rw [if_neg (by omega), decide_eq_false (by omega)]
  have nb : nd b = (false, dg b) := by unfold nd; rw [if_neg (by omega), decide_eq_false (by omega)]
  have us : U128 (a + b) := ⟨by omega, by omega⟩
  have hc : (a + b) / 340282366920938463463374607431768211456 = 0 := by omega
  obtain ⟨x, y, hw⟩ := words1_eq us false
  unfold F98_0
  rw [na, nb]
  simp only [beq_self_eq_true, cond_true, plus1_eq (show U128 a from ⟨by omega, by omega⟩) (show U128 b from ⟨by omega, by omega⟩), Option.bind_some, zero1_eq _ us, hc, Bool.not_true, cond_false, decide_eq_false (show ¬ a + b = 0 by omega), hw]
  rw [show decide (if false = true then a + b ≤ 170141183460469231731687303715884105728 else a + b ≤ 170141183460469231731687303715884105727) = false from decide_eq_false (by rw [if_neg (by decide)]; omega)]
  rfl
def LenP (s : Int) (o : Bool) (res : Int × Bool) : Prop := (s ≤ 170141183460469231731687303715884105727 ∧ ∃ r, IsRt s r ∧ res = if r > 9223372036854775807 then (9223372036854775807, true) else (r, o)) ∨ (170141183460469231731687303715884105727 < s ∧ res = (9223372036854775807, true))
theorem lenP_uniq {s : Int} {o : Bool} {a b : Int × Bool} (ha : LenP s o a) (hb : LenP s o b) : a = b := by
  rcases ha with ⟨h1, r, h2, h3⟩ | ⟨h1, h2⟩
  · rcases hb with ⟨g1, q, g2, g3⟩ | ⟨g1, g2⟩
    · rw [h3, g3, rt_uniq h2 g2]
    · omega
  · rcases hb with ⟨g1, q, g2, g3⟩ | ⟨g1, g2⟩
    · omega
    · rw [h2, g2]
theorem sq64 {x : Int} (h : I64 x) : 0 ≤ x * x ∧ x * x ≤ 85070591730234615865843651857942052864 := by
  unfold I64 at h
  have e : x * x = (if x < 0 then -x else x) * (if x < 0 then -x else x) := by
    split
    · rw [Int.neg_mul_neg]
    · rfl
  rw [e]
  have h1 : 0 ≤ (if x < 0 then -x else x) := by split <;> omega
  have h2 : (if x < 0 then -x else x) ≤ 9223372036854775808 := by split <;> omega
  exact ⟨Int.mul_nonneg h1 h1, sq_le h1 h2⟩
/-- What the program gives back, once the squares are summed. -/
theorem w_fin {s : Int} (h0 : 0 ≤ s) (h1 : s ≤ 170141183460469231731687303715884105727) (o : Bool) : ∃ res, ((F97_0 (wd s)).bind fun r => bif decide (r > 9223372036854775807) then some ((9223372036854775807 : Int), true) else some (IntKind.wrap .i64 r, o)) = some res ∧ ((F100_0 (nd s)).bind fun r => bif decide (r > 9223372036854775807) then some ((9223372036854775807 : Int), true) else some (IntKind.wrap .i64 r, o)) = some res ∧ LenP s o res := by
  obtain ⟨r, e1, e2, hr, hu⟩ := roots_same h0 h1
  rw [e1, e2]
  simp only [Option.bind_some]
  have hr0 := hr.1
  by_cases h : r > 9223372036854775807
  · rw [decide_eq_true h]
    exact ⟨_, rfl, rfl, Or.inl ⟨h1, r, hr, by rw [if_pos h]⟩⟩
  · rw [decide_eq_false h, cond_false, wrap_i64 ⟨by omega, by omega⟩]
    exact ⟨_, rfl, rfl, Or.inl ⟨h1, r, hr, by rw [if_neg h]⟩⟩
def sumSq : List Int → Int
  | [] => 0
  | x :: r => x * x + sumSq r
theorem sumSq_nn : ∀ (l : List Int), (∀ x ∈ l, I64 x) → 0 ≤ sumSq l := by
  intro l
  induction l with
  | nil => intro _; exact Int.le_refl _
  | cons x l ih =>
    intro h
    have := sq64 (h x (by simp))
    have := ih (fun y hy => h y (by simp [hy]))
    rw [sumSq]; omega
theorem lnK (n : Nat) (v) : K94_0 (n + 1) v = B94_0_4 (K94_0 n) v := rfl
theorem len_loop (l : List Int) (hl : l.length ≤ 900) (h6 : ∀ x ∈ l, I64 x) (o : Bool) : ∀ (d i n : Nat) (s : Int), i + d = l.length → d < n → 0 ≤ s → s ≤ 170141183460469231731687303715884105727 →
    ∃ res, K94_0 n ((true, (l, ((l.length : Int), (i : Int)))), (wd s, o)) = some res ∧ LenP (s + sumSq (l.drop i)) o res := by
  intro d
  induction d with
  | zero =>
    intro i n s h hn s0 s1
    obtain ⟨n, rfl⟩ : ∃ m, n = m + 1 := ⟨n - 1, by omega⟩
    obtain ⟨res, e1, _, hP⟩ := w_fin s0 s1 o
    refine ⟨res, ?_, ?_⟩
    · rw [lnK]
      unfold B94_0_4
      simp only [show decide ((i : Int) < (l.length : Int)) = false from decide_eq_false (by omega), cond_false, Bool.not_true]
      exact e1
    · rw [List.drop_eq_nil_of_le (by omega)]
      show LenP (s + 0) o res
      rw [Int.add_zero]; exact hP
  | succ d ih =>
    intro i n s h hn s0 s1
    obtain ⟨n, rfl⟩ : ∃ m, n = m + 1 := ⟨n - 1, by omega⟩
    have hi : i < l.length := by omega
    have hd := List.drop_eq_getElem_cons hi
    have hg : l[i]? = some l[i] := List.getElem?_eq_getElem hi
    have hr : rdx l (i : Int) = some l[i] := by
      unfold rdx
      rw [decide_eq_true (by omega)]
      simp [hg]
    have hx := h6 _ (List.getElem_mem hi)
    have hrest := sumSq_nn (l.drop (i + 1)) (fun x hx => h6 x (List.mem_of_mem_drop hx))
    generalize l[i] = x at hd hr hx
    have hq := sq64 hx
    have e5 : IntKind.wrap .i64 ((i : Int) + 1) = ((i + 1 : Nat) : Int) := by rw [wrap_i64 ⟨by omega, by omega⟩]; omega
    have e0 : s + sumSq (l.drop i) = s + x * x + sumSq (l.drop (i + 1)) := by rw [hd]; show s + (x * x + _) = _; omega
    have w1 := wd_ok (n := s) (by unfold I128; omega)
    have w2 := wd_ok (n := x * x) (by unfold I128; omega)
    rw [lnK, e0]
    unfold B94_0_4
    simp only [show decide ((i : Int) < (l.length : Int)) = true from decide_eq_true (by omega), cond_true, hr, Option.bind_some, mulw_eq hx hx, e5]
    by_cases ho : s + x * x ≤ 170141183460469231731687303715884105727
    · rw [addw_eq w1 w2 (by rw [wv_wd, wv_wd]; unfold I128; omega), wv_wd, wv_wd]
      simp only [Option.bind_some, Bool.not_true, cond_false]
      exact ih (i + 1) n (s + x * x) (by omega) (by omega) (by omega) ho
    · rw [addw_no w1 w2 (by rw [wv_wd, wv_wd]; unfold I128; omega)]
      obtain ⟨r, hr2, _⟩ := wroot_eq (m := 0) (by decide) (by decide)
      have hr3 : F97_0 (0, 0) = some r := hr2
      simp only [Option.bind_some, Bool.not_false, cond_true, hr3]
      exact ⟨_, rfl, Or.inr ⟨by omega, rfl⟩⟩
theorem len3_prog {x y z : Int} (hx : I64 x) (hy : I64 y) (hz : I64 z) (o : Bool) : ∃ res, F90_0 ((x, (y, z)), o) = some res ∧ LenP (x * x + y * y + z * z) o res := by
  obtain ⟨res, e, h⟩ := len_loop [x, y, z] (by simp) (by intro a ha; simp at ha; rcases ha with rfl | rfl | rfl <;> assumption) o 3 0 1000 0 rfl (by omega) (by decide) (by decide)
  refine ⟨res, ?_, ?_⟩
  · have e' : F94_0 ([x, y, z], o) = some res := e
    unfold F90_0
    simp only []
    rw [e']; rfl
  · have : (0 : Int) + sumSq ([x, y, z].drop 0) = x * x + y * y + z * z := by show 0 + (x * x + (y * y + (z * z + 0))) = _; omega
    rwa [this] at h
theorem len3_ref {x y z : Int} (hx : I64 x) (hy : I64 y) (hz : I64 z) (o : Bool) : ∃ res, F92_0 ((x, (y, z)), o) = some res ∧ LenP (x * x + y * y + z * z) o res := by
  have qx := sq64 hx
  have qy := sq64 hy
  have qz := sq64 hz
  have h0 : I64 0 := by unfold I64; decide
  have a1 : F98_0 (nd (0 * 0), nd (x * x)) = some (nd (x * x), true) := by
    rw [add1_eq (by unfold S127; omega) (by unfold S127; omega) (by omega), show 0 * 0 + x * x = x * x by omega]
  have key : ∃ res, F95_0 ((0, (x, (y, z))), o) = some res ∧ LenP (x * x + y * y + z * z) o res := by
    unfold F95_0
    simp only [mul1_eq h0 h0, mul1_eq hx hx, Option.bind_some, a1, cond_true, mul1_eq hy hy]
    by_cases c1 : x * x + y * y ≤ 170141183460469231731687303715884105727
    · rw [add1_eq (by unfold S127; omega) (by unfold S127; omega) (by omega)]
      simp only [Option.bind_some, cond_true, mul1_eq hz hz]
      by_cases c2 : x * x + y * y + z * z ≤ 170141183460469231731687303715884105727
      · rw [add1_eq (by unfold S127; omega) (by unfold S127; omega) (by omega)]
        simp only [Option.bind_some, cond_true, Bool.not_true, cond_false]
        obtain ⟨res, _, e2, hP⟩ := w_fin (s := x * x + y * y + z * z) (by omega) c2 o
        exact ⟨res, e2, hP⟩
      · rw [add1_no (by omega) (by omega) (by omega) (by omega) (by omega) (by omega)]
        simp only [Option.bind_some, cond_false, Bool.not_false, cond_true]
        exact ⟨_, rfl, Or.inr ⟨by omega, rfl⟩⟩
    · rw [add1_no (by omega) (by omega) (by omega) (by omega) (by omega) (by omega)]
      simp only [Option.bind_some, cond_false, Bool.not_false, cond_true]
      exact ⟨_, rfl, Or.inr ⟨by omega, rfl⟩⟩
  obtain ⟨res, e, h⟩ := key
  refine ⟨res, ?_, h⟩
  unfold F92_0
  simp only []
  rw [e]; rfl
theorem len3_same {x y z : Int} (hx : I64 x) (hy : I64 y) (hz : I64 z) (o : Bool) : ∃ res, F90_0 ((x, (y, z)), o) = some res ∧ F92_0 ((x, (y, z)), o) = some res ∧ LenP (x * x + y * y + z * z) o res := by
  obtain ⟨a, h1, h2⟩ := len3_prog hx hy hz o
  obtain ⟨b, g1, g2⟩ := len3_ref hx hy hz o
  obtain rfl := lenP_uniq h2 g2
  exact ⟨a, h1, g1, h2⟩
end Go.Proofs.YtneiaaalbpjgiaaGreat.Ev
