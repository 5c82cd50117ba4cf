/- Chapter 41: bounds and mean of a channel. -/
import Derived.Test.YtfhhpfhmplgndaaMFx
import Derived.Test.YtfhhpfhmplgndaaMRef
set_option linter.unusedVariables false
set_option linter.unusedSimpArgs false
namespace Go.Proofs.Ytfhhpfhmplgndaa.Ev
open Go

set_option maxRecDepth 100000 in
theorem awake41 : F17_0 () = some true := by kernel_rfl
theorem sw64 {x : Int} (h : -9223372036854775808 ≤ x ∧ x ≤ 9223372036854775807) : IntKind.wrap .i64 x = x := by rw [IntKind.wrap_i64]; omega
theorem swN {x : Int} {n : Nat} (h : x = n) (hn : n ≤ 9223372036854775807) : IntKind.wrap .i64 x = (n : Int) := by rw [sw64 (by omega), h]
theorem srdx {α : Type} {l : List α} {i : Nat} {x : α} (h : l[i]? = some x) : rdx l (i : Int) = some x := by
  unfold rdx
  rw [decide_eq_true (by omega)]
  simpa using h
theorem sidx {i n : Nat} (h : i < n) : idx (i : Int) n = some i := by
  unfold idx
  rw [decide_eq_true (by omega)]
  simp
theorem swf64 {n : Int} (h : (Lit.int .i64 n).wf = true) : I64 n := by
  have : IntKind.i64.min ≤ n ∧ n ≤ IntKind.i64.max := by simpa [Lit.wf] using h
  exact this
abbrev S8 : Type := Int × Int × Int × Int × Int × Int × Int × Int
def ch (x : S8) (c : Nat) : Int := List.getD [x.1, x.2.1, x.2.2.1, x.2.2.2.1, x.2.2.2.2.1, x.2.2.2.2.2.1, x.2.2.2.2.2.2.1, x.2.2.2.2.2.2.2] c 0

theorem ofm_p {n : Int} (hn : I64 n) (o : Bool) : F32_0 (n, o) = some (sat (n * 4294967296), o || ovf (n * 4294967296)) := by
  have hn' := hn
  unfold I64 at hn'
  unfold F32_0
  simp only []
  rw [mulw_eq hn (by unfold I64; omega)]
  simp only [Option.bind_some]
  rw [fit_p (by unfold I128; omega)]; rfl
theorem rof_eq {n : Int} (hn : 0 ≤ n ∧ n ≤ 2147483647) (o : Bool) : F34_0 (n, o) = some (n * 4294967296, o) := by
  unfold F34_0
  simp only []
  rw [decide_eq_false (show ¬ n > 2147483647 by omega), cond_false, decide_eq_false (show ¬ n < -2147483648 by omega), cond_false, sw64 (by omega)]

/-- What both reckon, sample by sample. -/
def stL (c : Nat) : List S8 → Int → Int → Int → Bool → Int × Int × Int × Bool
  | [], lo, hi, s, o => (lo, hi, s, o)
  | x :: r, lo, hi, s, o => stL c r (if ch x c < lo then ch x c else lo) (if ch x c > hi then ch x c else hi) (sat (s + ch x c)) (o || ovf (s + ch x c))
def meanS (n : Nat) (r : Int × Int × Int × Bool) : (Int × Int × Int) × Bool := ((r.1, (r.2.1, divS r.2.2.1 ((n : Int) * 4294967296))), r.2.2.2 || divO r.2.2.1 ((n : Int) * 4294967296))
theorem stL_64 (c : Nat) : ∀ (l : List S8) (lo hi s : Int) (o : Bool), I64 s → I64 (stL c l lo hi s o).2.2.1 := by
  intro l
  induction l with
  | nil => intro lo hi s o h; exact h
  | cons x l ih => intro lo hi s o h; exact ih _ _ _ _ (sat_i64 _)
theorem sgt {α : Type} {l : List α} {i : Nat} (h : i < l.length) : ∃ x, l[i]? = some x ∧ l.drop i = x :: l.drop (i + 1) :=
  ⟨l[i], List.getElem?_eq_getElem h, List.drop_eq_getElem_cons h⟩
def All8 (l : List S8) (c : Nat) : Prop := ∀ x ∈ l, I64 (ch x c)
theorem all8 {l : List S8} (h : ∀ x ∈ l, (Lit.int .i64 x.1).wf = true ∧ (Lit.int .i64 x.2.1).wf = true ∧ (Lit.int .i64 x.2.2.1).wf = true ∧ (Lit.int .i64 x.2.2.2.1).wf = true ∧ (Lit.int .i64 x.2.2.2.2.1).wf = true ∧ (Lit.int .i64 x.2.2.2.2.2.1).wf = true ∧ (Lit.int .i64 x.2.2.2.2.2.2.1).wf = true ∧ (Lit.int .i64 x.2.2.2.2.2.2.2).wf = true) (c : Nat) : All8 l c := by
  intro x hx
  obtain ⟨h0, h1, h2, h3, h4, h5, h6, h7⟩ := h x hx
  match c with
  | 0 => exact swf64 h0
  | 1 => exact swf64 h1
  | 2 => exact swf64 h2
  | 3 => exact swf64 h3
  | 4 => exact swf64 h4
  | 5 => exact swf64 h5
  | 6 => exact swf64 h6
  | 7 => exact swf64 h7
  | n + 8 => show I64 0; unfold I64; decide
def statsS (l : List S8) (c : Int) : (Int × Int × Int) × Bool :=
  match l with
  | [] => ((0, (0, 0)), false)
  | x :: r => if 0 ≤ c ∧ c < 8 then meanS (r.length + 1) (stL c.toNat (x :: r) (ch x c.toNat) (ch x c.toNat) 0 false) else ((0, (0, 0)), false)
theorem stL_over (c : Nat) : ∀ (l : List S8) (lo hi s : Int), (stL c l lo hi s true).2.2.2 = true := by
  intro l
  induction l with
  | nil => intro lo hi s; rfl
  | cons x l ih => intro lo hi s; exact ih _ _ _
theorem ovf_no {n : Int} (h : ovf n = false) : sat n = n := by
  unfold ovf at h
  simp at h
  exact sat_in (by unfold I64; omega)
theorem stL_mean (c : Nat) : ∀ (l : List S8) (lo hi s : Int) (k : Nat), (stL c l lo hi s false).2.2.2 = false → lo ≤ hi → lo * k ≤ s → s ≤ hi * k →
    (stL c l lo hi s false).1 ≤ (stL c l lo hi s false).2.1 ∧ (stL c l lo hi s false).1 * ((k + l.length : Nat) : Int) ≤ (stL c l lo hi s false).2.2.1 ∧ (stL c l lo hi s false).2.2.1 ≤ (stL c l lo hi s false).2.1 * ((k + l.length : Nat) : Int) := by
  intro l
  induction l with
  | nil => intro lo hi s k _ h0 h1 h2; exact ⟨h0, h1, h2⟩
  | cons x l ih =>
    intro lo hi s k ho h0 h1 h2
    rw [stL] at ho ⊢
    rw [Bool.false_or] at ho ⊢
    cases hv : ovf (s + ch x c) with
    | true => rw [hv, stL_over] at ho; cases ho
    | false =>
      rw [hv] at ho
      rw [ovf_no hv] at ho ⊢
      have hk : (0 : Int) ≤ k := Int.natCast_nonneg k
      have m1 : (if ch x c < lo then ch x c else lo) * ((k + 1 : Nat) : Int) ≤ s + ch x c := by
        have e : ((k + 1 : Nat) : Int) = (k : Int) + 1 := by omega
        rw [e, Int.mul_add, Int.mul_one]
        have h3 : (if ch x c < lo then ch x c else lo) * (k : Int) ≤ lo * k := Int.mul_le_mul_of_nonneg_right (by split <;> omega) hk
        have h4 : (if ch x c < lo then ch x c else lo) ≤ ch x c := by split <;> omega
        omega
      have m2 : s + ch x c ≤ (if ch x c > hi then ch x c else hi) * ((k + 1 : Nat) : Int) := by
        have e : ((k + 1 : Nat) : Int) = (k : Int) + 1 := by omega
        rw [e, Int.mul_add, Int.mul_one]
        have h3 : hi * (k : Int) ≤ (if ch x c > hi then ch x c else hi) * k := Int.mul_le_mul_of_nonneg_right (by split <;> omega) hk
        have h4 : ch x c ≤ (if ch x c > hi then ch x c else hi) := by split <;> omega
        omega
      have := ih _ _ _ (k + 1) ho (by split <;> split <;> omega) m1 m2
      rw [List.length_cons, show k + (l.length + 1) = k + 1 + l.length by omega]
      exact this
end Go.Proofs.Ytfhhpfhmplgndaa.Ev
