/- Whole numbers: what is rounded to the nearest, half way to the even one, what fits, and long division by a half of the words. -/
import Derived.Test.YtgjglkogengmbaaEvA
import Derived.Laws.MathBits
import Derived.Laws.BitsLemmas
import Derived.Laws.Bits64
import Derived.Laws.Bits64b
set_option linter.unusedVariables false
set_option linter.unusedSimpArgs false
namespace Go.Proofs.Ytgjglkogengmbaa.Ev
open Go

theorem b_tt : (true == true) = true := rfl
theorem b_ff : (false == false) = true := rfl
theorem b_tf : (true == false) = false := rfl
theorem b_ft : (false == true) = false := rfl
theorem some_eq {α : Type} {a b : α} (h : a = b) : some a = some b := congrArg some h
theorem pair_eq {α β : Type} {a a' : α} {b b' : β} (h : a = a') (k : b = b') : (a, b) = (a', b') := by rw [h, k]
def I64 (n : Int) : Prop := -9223372036854775808 ≤ n ∧ n ≤ 9223372036854775807
def U64 (n : Int) : Prop := 0 ≤ n ∧ n ≤ 18446744073709551615
instance (n : Int) : Decidable (I64 n) := by unfold I64; infer_instance
theorem wrap_i64 {n : Int} (h : I64 n) : IntKind.wrap .i64 n = n := by rw [IntKind.wrap_i64]; unfold I64 at h; omega
theorem wrap_u64 {n : Int} (h : U64 n) : IntKind.wrap .u64 n = n := by rw [IntKind.wrap_u64]; unfold U64 at h; omega
theorem wrap_i64_i64 (n : Int) : I64 (IntKind.wrap .i64 n) := by rw [IntKind.wrap_i64]; unfold I64; omega
theorem wrap_u64_u64 (n : Int) : U64 (IntKind.wrap .u64 n) := by rw [IntKind.wrap_u64]; unfold U64; omega
theorem fdiv_pow (x : Int) (k : Nat) : Int.fdiv x (2 ^ k) = x / 2 ^ k := Int.fdiv_eq_ediv_of_nonneg x (Int.le_of_lt (Int.pow_pos (by decide)))
theorem fdiv32 (x : Int) : Int.fdiv x (2 ^ 32) = x / 4294967296 := fdiv_pow x 32
theorem fdiv63 (x : Int) : Int.fdiv x (2 ^ 63) = x / 9223372036854775808 := fdiv_pow x 63
theorem tdiv_nn {a b : Int} (h : 0 ≤ a) : Int.tdiv a b = a / b := Int.tdiv_eq_ediv_of_nonneg h
theorem tmod_nn {a b : Int} (h : 0 ≤ a) : Int.tmod a b = a % b := Int.tmod_eq_emod_of_nonneg h
/-- A product of two words. -/
theorem prod_i64 {a b : Int} (ha : I64 a) (hb : I64 b) : -85070591730234615865843651857942052864 ≤ a * b ∧ a * b ≤ 85070591730234615865843651857942052864 := by
  unfold I64 at ha hb
  have h := Int.natAbs_mul a b
  have h1 : a.natAbs ≤ 9223372036854775808 := by omega
  have h2 : b.natAbs ≤ 9223372036854775808 := by omega
  have h3 := Nat.mul_le_mul h1 h2
  rw [← h] at h3
  generalize a * b = p at *
  omega
theorem prod_u64 {a b : Int} (ha : U64 a) (hb : U64 b) : 0 ≤ a * b ∧ a * b ≤ 340282366920938463426481119284349108225 := by
  unfold U64 at ha hb
  have h0 := Int.mul_nonneg ha.1 hb.1
  have h1 := Int.mul_le_mul ha.2 hb.2 hb.1 (by decide)
  exact ⟨h0, by simpa using h1⟩
theorem prod_le {a b A B : Int} (h0 : 0 ≤ a) (h1 : a ≤ A) (h2 : 0 ≤ b) (h3 : b ≤ B) : 0 ≤ a * b ∧ a * b ≤ A * B :=
  ⟨Int.mul_nonneg h0 h2, Int.mul_le_mul h1 h3 h2 (Int.le_trans h0 h1)⟩

/-! ### Rounded -/
/-- The nearest whole number to n / d, half way to the even one. -/
def rhe (n d : Int) : Int := if 2 * (n % d) > d ∨ (2 * (n % d) = d ∧ (n / d) % 2 = 1) then n / d + 1 else n / d
theorem ediv_of {n d q r : Int} (hd : 0 < d) (h : n = d * q + r) (h0 : 0 ≤ r) (h1 : r < d) : n / d = q ∧ n % d = r :=
  (Int.ediv_emod_unique hd).2 ⟨by omega, h0, h1⟩
theorem rhe_neg {n d : Int} (hd : 0 < d) : rhe (-n) d = -rhe n d := by
  have h1 := Int.mul_ediv_add_emod n d
  have h2 := Int.emod_nonneg n (show d ≠ 0 by omega)
  have h3 := Int.emod_lt_of_pos n hd
  unfold rhe
  generalize hq : n / d = q at *
  generalize hr : n % d = r at *
  by_cases h0 : r = 0
  · obtain ⟨e1, e2⟩ := ediv_of (n := -n) (q := -q) (r := 0) hd (by rw [← h1, h0]; rw [Int.mul_neg]; omega) (by omega) hd
    rw [e1, e2, h0]
    rw [if_neg (by omega), if_neg (by omega)]
  · obtain ⟨e1, e2⟩ := ediv_of (n := -n) (q := -q - 1) (r := d - r) hd (by rw [← h1, Int.mul_sub, Int.mul_neg, Int.mul_one]; omega) (by omega) (by omega)
    rw [e1, e2]
    split <;> split <;> omega
theorem rhe_nonneg {n d : Int} (hd : 0 < d) (hn : 0 ≤ n) : 0 ≤ rhe n d := by
  have := Int.ediv_nonneg hn (Int.le_of_lt hd)
  unfold rhe; split <;> omega
theorem rhe_bounds {n d : Int} (hd : 0 < d) : n / d ≤ rhe n d ∧ rhe n d ≤ n / d + 1 := by unfold rhe; split <;> omega
theorem rhe_le {n d M : Int} (hd : 0 < d) (h : n ≤ M * d) : rhe n d ≤ M := by
  have h1 := Int.mul_ediv_add_emod n d
  have h2 := Int.emod_nonneg n (show d ≠ 0 by omega)
  have h3 := Int.emod_lt_of_pos n hd
  have h4 : n / d ≤ M := by
    have := Int.ediv_le_ediv hd h
    rwa [Int.mul_ediv_cancel _ (by omega)] at this
  by_cases h5 : n / d = M
  · unfold rhe
    rw [h5] at h1 ⊢
    rw [Int.mul_comm] at h1
    rw [if_neg (by omega)]
    omega
  · have := (rhe_bounds (n := n) hd).2; omega
theorem rhe_ge {n d M : Int} (hd : 0 < d) (h : M * d ≤ n) : M ≤ rhe n d := by
  have := (rhe_bounds (n := n) hd).1
  have h4 : M ≤ n / d := by rw [Int.le_ediv_iff_mul_le hd]; exact h
  omega
/-- The nearest number that fits; and whether the number itself does not. -/
def sat (n : Int) : Int := if n > 9223372036854775807 then 9223372036854775807 else if n < -9223372036854775808 then -9223372036854775808 else n
def ovf (n : Int) : Bool := decide (n > 9223372036854775807) || decide (n < -9223372036854775808)
theorem sat_i64 (n : Int) : I64 (sat n) := by unfold sat I64; split <;> (try split) <;> omega
theorem sat_in {n : Int} (h : I64 n) : sat n = n := by unfold sat; unfold I64 at h; rw [if_neg (by omega), if_neg (by omega)]
theorem ovf_in {n : Int} (h : I64 n) : ovf n = false := by unfold ovf; unfold I64 at h; simp; omega
theorem ovf_out {n : Int} (h : ¬ I64 n) : ovf n = true := by unfold ovf; unfold I64 at h; simp; omega
theorem ovf_false {n : Int} (h : ovf n = false) : I64 n := by
  rcases Classical.em (I64 n) with h' | h'
  · exact h'
  · rw [ovf_out h'] at h; cases h
def mulR (a b : Int) : Int := rhe (a * b) 4294967296
def divR (a b : Int) : Int := if 0 < b then rhe (a * 4294967296) b else rhe (-(a * 4294967296)) (-b)
def mulS (a b : Int) : Int := sat (mulR a b)
def divS (a b : Int) : Int := if b = 0 then (if a = 0 then 0 else if a < 0 then -9223372036854775808 else 9223372036854775807) else sat (divR a b)
def divO (a b : Int) : Bool := decide (b = 0) || ovf (divR a b)

/-! ### Words -/
/-- A wide number: its upper and its lower word. -/
def wd (n : Int) : Int × Int := (n / 18446744073709551616, n % 18446744073709551616)
def wv (p : Int × Int) : Int := p.1 * 18446744073709551616 + p.2
def I128 (n : Int) : Prop := -170141183460469231731687303715884105728 ≤ n ∧ n ≤ 170141183460469231731687303715884105727
def W128 (p : Int × Int) : Prop := I64 p.1 ∧ U64 p.2
theorem wd_wv {p : Int × Int} (h : W128 p) : wd (wv p) = p := by
  obtain ⟨⟨h1, h2⟩, h3, h4⟩ := h
  unfold wd wv
  apply Prod.ext <;> simp only [] <;> omega
theorem wv_wd (n : Int) : wv (wd n) = n := by unfold wd wv; simp only []; omega
theorem wd_ok {n : Int} (h : I128 n) : W128 (wd n) := by unfold I128 at h; unfold W128 wd I64 U64; simp only []; omega
theorem wv_ok {p : Int × Int} (h : W128 p) : I128 (wv p) := by
  obtain ⟨⟨h1, h2⟩, h3, h4⟩ := h
  unfold wv I128; omega

theorem u64_join {x y : Int} (i : Nat) (hx : U64 x) (hm : x % 2 ^ i = 0) (hy0 : 0 ≤ y) (hy : y < 2 ^ i) (hy1 : U64 y) : bits .or .u64 x y = x + y :=
  bits_join .u64 64 (by decide) (fun n h0 h1 => wrap_u64 ⟨h0, by omega⟩) i x y hx.1 hm (by have := hx.2; omega) hy0 hy (by have := hy1.2; omega)
theorem u64_mask {x : Int} (i : Nat) (hi : i ≤ 64) (hx : U64 x) : bits .and .u64 x (2 ^ i - 1) = x % 2 ^ i :=
  bits_mask .u64 64 (by decide) (fun n h0 h1 => wrap_u64 ⟨h0, by omega⟩) i hi x hx.1 (by have := hx.2; omega)
/-! ### Long division by half a word -/
/-- A guess of a quotient's digit: never too small. -/
structure Guess (Y a b u c q r : Int) : Prop where
  Y1 : 9223372036854775808 ≤ Y
  Y2 : Y ≤ 18446744073709551615
  Ye : Y = a * 4294967296 + b
  a1 : 2147483648 ≤ a
  a2 : a ≤ 4294967295
  b1 : 0 ≤ b
  b2 : b ≤ 4294967295
  u1 : 0 ≤ u
  u2 : u < Y
  c1 : 0 ≤ c
  c2 : c ≤ 4294967295
  r1 : 0 ≤ r
  r2 : r ≤ 4294967295
  q1 : 0 ≤ q
  inv : q * a + r = u
  big : u * 4294967296 + c < (q + 1) * Y
theorem Guess.le {Y a b u c q r : Int} (h : Guess Y a b u c q r) : q ≤ 4294967297 := by
  have := h.inv; have := h.u2; have := h.Ye; have := h.a1; have := h.b2; have := h.r1
  apply Int.le_of_lt_add_one
  apply Int.lt_of_not_ge
  intro hq
  have h1 : 4294967298 * a ≤ q * a := Int.mul_le_mul_of_nonneg_right (by omega) (by omega)
  omega
theorem Guess.start {Y a b u c : Int} (Y1 : 9223372036854775808 ≤ Y) (Y2 : Y ≤ 18446744073709551615) (Ye : Y = a * 4294967296 + b) (b1 : 0 ≤ b) (b2 : b ≤ 4294967295) (u1 : 0 ≤ u) (u2 : u < Y) (c1 : 0 ≤ c) (c2 : c ≤ 4294967295) :
    Guess Y a b u c (u / a) (u - u / a * a) := by
  have a1 : 2147483648 ≤ a := by omega
  have a2 : a ≤ 4294967295 := by omega
  have h1 := Int.mul_ediv_add_emod u a
  have h2 := Int.emod_nonneg u (show a ≠ 0 by omega)
  have h3 := Int.emod_lt_of_pos u (show 0 < a by omega)
  have h4 := Int.ediv_nonneg u1 (show 0 ≤ a by omega)
  rw [Int.mul_comm] at h1
  refine ⟨Y1, Y2, Ye, a1, a2, b1, b2, u1, u2, c1, c2, by omega, by omega, h4, by omega, ?_⟩
  have e : (u / a + 1) * Y = (u / a * a + a) * 4294967296 + (u / a + 1) * b := by rw [Ye]; grind
  have h5 : 0 ≤ (u / a + 1) * b := Int.mul_nonneg (by omega) b1
  rw [e]
  omega
/-- Too great by the digit's own bound. -/
theorem Guess.down {Y a b u c q r : Int} (h : Guess Y a b u c q r) (hq : 4294967296 ≤ q ∨ 4294967296 * r + c < q * b) : 1 ≤ q ∧ (q - 1) * a + (r + a) = u ∧ u * 4294967296 + c < (q - 1 + 1) * Y := by
  have e1 : (q - 1) * a = q * a - a := by grind
  have hi := h.inv
  have e2 : q * Y = (q * a) * 4294967296 + q * b := by rw [h.Ye]; grind
  have hY := h.Y1
  refine ⟨?_, by rw [e1]; omega, ?_⟩
  · rcases hq with hq | hq
    · omega
    · rcases Int.lt_or_le q 1 with hl | hl
      · have h0 : q = 0 := by have := h.q1; omega
        subst h0
        have := h.r1; have := h.c1
        omega
      · exact hl
  · rw [show q - 1 + 1 = q by omega]
    rcases hq with hq | hq
    · have h1 : 4294967296 * Y ≤ q * Y := Int.mul_le_mul_of_nonneg_right hq (by omega)
      have := h.u2; have := h.c2
      omega
    · rw [e2]; omega
theorem Guess.next {Y a b u c q r : Int} (h : Guess Y a b u c q r) (hq : 4294967296 ≤ q ∨ 4294967296 * r + c < q * b) (hr : r + a ≤ 4294967295) : Guess Y a b u c (q - 1) (r + a) := by
  obtain ⟨h1, h2, h3⟩ := h.down hq
  exact ⟨h.Y1, h.Y2, h.Ye, h.a1, h.a2, h.b1, h.b2, h.u1, h.u2, h.c1, h.c2, by have := h.r1; have := h.a1; omega, hr, by omega, h2, h3⟩
/-- The digit, once the guess is not too great. -/
theorem digit_of {Y a b u c q r : Int} (hY : 0 < Y) (Ye : Y = a * 4294967296 + b) (inv : q * a + r = u) (big : u * 4294967296 + c < (q + 1) * Y) (hle : q * b ≤ 4294967296 * r + c) :
    (u * 4294967296 + c) / Y = q ∧ (u * 4294967296 + c) % Y = u * 4294967296 + c - q * Y := by
  have e2 : q * Y = (q * a) * 4294967296 + q * b := by rw [Ye]; grind
  have e3 : (q + 1) * Y = q * Y + Y := by grind
  refine ediv_of hY (by rw [Int.mul_comm Y q]; omega) (by rw [e2]; omega) (by omega)
theorem Guess.fits {Y a b u c q r : Int} (h : Guess Y a b u c q r) (hq : q ≤ 4294967295) (hle : q * b ≤ 4294967296 * r + c) :
    (u * 4294967296 + c) / Y = q ∧ (u * 4294967296 + c) % Y = u * 4294967296 + c - q * Y := digit_of (by have := h.Y1; omega) h.Ye h.inv h.big hle
theorem Guess.leave {Y a b u c q r : Int} (h : Guess Y a b u c q r) (hq : 4294967296 ≤ q ∨ 4294967296 * r + c < q * b) (hr : 4294967296 ≤ r + a) :
    (u * 4294967296 + c) / Y = q - 1 ∧ (u * 4294967296 + c) % Y = u * 4294967296 + c - (q - 1) * Y := by
  obtain ⟨h1, h2, h3⟩ := h.down hq
  have hl := h.le
  refine digit_of (by have := h.Y1; omega) h.Ye h2 h3 ?_
  have h4 := prod_le (a := q - 1) (b := b) (A := 4294967296) (B := 4294967295) (by omega) (by omega) h.b1 h.b2
  have := h.c1
  omega
theorem digit_lt {Y u c : Int} (hY : 0 < Y) (u1 : 0 ≤ u) (u2 : u < Y) (c1 : 0 ≤ c) (c2 : c ≤ 4294967295) : 0 ≤ (u * 4294967296 + c) / Y ∧ (u * 4294967296 + c) / Y ≤ 4294967295 := by
  refine ⟨Int.ediv_nonneg (by omega) (by omega), ?_⟩
  apply Int.le_of_lt_add_one
  rw [Int.ediv_lt_iff_lt_mul hY]
  omega
/-- Two digits are the quotient. -/
theorem two_digits {N y p Y u c1 c0 : Int} (hy : 0 < y) (hp : 0 < p) (hY : Y = y * p) (hN : N * p = (u * 4294967296 + c1) * 4294967296 + c0) (c01 : 0 ≤ c0) (c02 : c0 ≤ 4294967295) :
    let q1 := (u * 4294967296 + c1) / Y
    let v := (u * 4294967296 + c1) % Y
    let q0 := (v * 4294967296 + c0) / Y
    let r := (v * 4294967296 + c0) % Y
    q1 * 4294967296 + q0 = N / y ∧ r / p = N % y := by
  intro q1 v q0 r
  have hY0 : 0 < Y := by rw [hY]; exact Int.mul_pos hy hp
  have h1 := Int.mul_ediv_add_emod (u * 4294967296 + c1) Y
  have h2 := Int.mul_ediv_add_emod (v * 4294967296 + c0) Y
  have h3 := Int.emod_nonneg (v * 4294967296 + c0) (show Y ≠ 0 by omega)
  have h4 := Int.emod_lt_of_pos (v * 4294967296 + c0) hY0
  have e1 : Y * q1 + v = u * 4294967296 + c1 := h1
  have e2 : Y * q0 + r = v * 4294967296 + c0 := h2
  have hr0 : 0 ≤ r := h3
  have hr1 : r < Y := h4
  have e3 : N * p = (q1 * 4294967296 + q0) * (y * p) + r := by rw [← hY, hN, ← e1]; grind
  have e4 : r = (N - (q1 * 4294967296 + q0) * y) * p := by grind
  have e5 : r / p = N - (q1 * 4294967296 + q0) * y := by rw [e4]; exact Int.mul_ediv_cancel _ (by omega)
  have h5 : 0 ≤ N - (q1 * 4294967296 + q0) * y := by rw [← e5]; exact Int.ediv_nonneg hr0 (by omega)
  have h6 : N - (q1 * 4294967296 + q0) * y < y := by
    rw [← e5]
    rw [Int.ediv_lt_iff_lt_mul hp, ← hY]; exact hr1
  obtain ⟨h7, h8⟩ := ediv_of (n := N) (q := q1 * 4294967296 + q0) (r := N - (q1 * 4294967296 + q0) * y) hy (by rw [Int.mul_comm y]; omega) h5 h6
  exact ⟨h7.symm, by rw [e5, h8]⟩
end Go.Proofs.Ytgjglkogengmbaa.Ev
