/- Chapter 41: bounds and mean of a channel. -/
import Derived.Test.YtfhhpfhmplgndaaMFx
import Derived.Test.YtfhhpfhmplgndaaMRef
set_option linter.unusedVariables false
set_option linter.unusedSimpArgs false
namespace Go.Proofs.Ytfhhpfhmplgndaa.Ev
open Go

set_option maxRecDepth 100000 in
theorem awake41 : F17_0 () = some true := by kernel_rfl
theorem sw64 {x : Int} (h : -9223372036854775808 ≤ x ∧ x ≤ 9223372036854775807) : IntKind.wrap .i64 x = x := by rw [IntKind.wrap_i64]; omega
theorem swN {x : Int} {n : Nat} (h : x = n) (hn : n ≤ 9223372036854775807) : IntKind.wrap .i64 x = (n : Int) := by rw [sw64 (by omega), h]
theorem srdx {α : Type} {l : List α} {i : Nat} {x : α} (h : l[i]? = some x) : rdx l (i : Int) = some x := by
  unfold rdx
  rw [decide_eq_true (by omega)]
  simpa using h
theorem sidx {i n : Nat} (h : i < n) : idx (i : Int) n = some i := by
  unfold idx
  rw [decide_eq_true (by omega)]
  simp
theorem swf64 {n : Int} (h : (Lit.int .i64 n).wf = true) : I64 n := by
  have : IntKind.i64.min ≤ n ∧ n ≤ IntKind.i64.max := by simpa [Lit.wf] using h
  exact this
abbrev S8 : Type := Int × Int × Int × Int × Int × Int × Int × Int
def ch (x : S8) (c : Nat) : Int := List.getD [x.1, x.2.1, x.2.2.1, x.2.2.2.1, x.2.2.2.2.1, x.2.2.2.2.2.1, x.2.2.2.2.2.2.1, x.2.2.2.2.2.2.2] c 0

theorem add_p {a b : Int} (ha : I64 a) (hb : I64 b) (o : Bool) : F52_0 ((a, b), o) = some (sat (a + b), o || ovf (a + b)) := by
  have ha' := ha; have hb' := hb
  unfold I64 at ha' hb'
  unfold F52_0
  simp only [ofw_eq ha, ofw_eq hb, Option.bind_some]
  rw [addw_eq (wd_ok (by unfold I128; omega)) (wd_ok (by unfold I128; omega)) (by rw [wv_wd, wv_wd]; unfold I128; omega), wv_wd, wv_wd]
  simp only [Option.bind_some]
  rw [fit_p (by unfold I128; omega)]; rfl
theorem ofm_p {n : Int} (hn : I64 n) (o : Bool) : F32_0 (n, o) = some (sat (n * 4294967296), o || ovf (n * 4294967296)) := by
  have hn' := hn
  unfold I64 at hn'
  unfold F32_0
  simp only []
  rw [mulw_eq hn (by unfold I64; omega)]
  simp only [Option.bind_some]
  rw [fit_p (by unfold I128; omega)]; rfl
theorem radd_eq {a b : Int} (ha : I64 a) (hb : I64 b) (o : Bool) : F54_0 ((a, b), o) = some (sat (a + b), o || ovf (a + b)) := by
  unfold I64 at ha hb
  have hi : ∀ {x : Int}, x > 9223372036854775807 → sat x = 9223372036854775807 ∧ ovf x = true := fun {x} h => ⟨by unfold sat; rw [if_pos h], by unfold ovf; simp; omega⟩
  have lo : ∀ {x : Int}, x < -9223372036854775808 → sat x = -9223372036854775808 ∧ ovf x = true := fun {x} h => ⟨by unfold sat; rw [if_neg (by omega), if_pos h], by unfold ovf; simp; omega⟩
  unfold F54_0
  simp only [rbound_eq, Option.bind_some]
  by_cases h1 : b > 0
  · have e1 : IntKind.wrap .i64 (9223372036854775807 - b) = 9223372036854775807 - b := sw64 (by omega)
    rw [decide_eq_true h1, cond_true, e1]
    by_cases h2 : a > 9223372036854775807 - b
    · rw [decide_eq_true h2, cond_true, (hi (x := a + b) (by omega)).1, (hi (x := a + b) (by omega)).2, Bool.or_true]; rfl
    · rw [decide_eq_false h2, cond_false, decide_eq_false (show ¬ b < 0 by omega), cond_false, sw64 (by omega), sat_in (by unfold I64; omega), ovf_in (by unfold I64; omega), Bool.or_false]
  · rw [decide_eq_false h1, cond_false]
    by_cases h2 : b < 0
    · have e1 : IntKind.wrap .i64 (-9223372036854775808 - b) = -9223372036854775808 - b := sw64 (by omega)
      rw [decide_eq_true h2, cond_true, e1]
      by_cases h3 : a < -9223372036854775808 - b
      · rw [decide_eq_true h3, cond_true, (lo (x := a + b) (by omega)).1, (lo (x := a + b) (by omega)).2, Bool.or_true]; rfl
      · rw [decide_eq_false h3, cond_false, sw64 (by omega), sat_in (by unfold I64; omega), ovf_in (by unfold I64; omega), Bool.or_false]
    · rw [decide_eq_false h2, cond_false, sw64 (by omega), sat_in (by unfold I64; omega), ovf_in (by unfold I64; omega), Bool.or_false]
theorem rof_eq {n : Int} (hn : 0 ≤ n ∧ n ≤ 2147483647) (o : Bool) : F34_0 (n, o) = some (n * 4294967296, o) := by
  unfold F34_0
  simp only []
  rw [decide_eq_false (show ¬ n > 2147483647 by omega), cond_false, decide_eq_false (show ¬ n < -2147483648 by omega), cond_false, sw64 (by omega)]

/-- What both reckon, sample by sample. -/
def stL (c : Nat) : List S8 → Int → Int → Int → Bool → Int × Int × Int × Bool
  | [], lo, hi, s, o => (lo, hi, s, o)
  | x :: r, lo, hi, s, o => stL c r (if ch x c < lo then ch x c else lo) (if ch x c > hi then ch x c else hi) (sat (s + ch x c)) (o || ovf (s + ch x c))
def meanS (n : Nat) (r : Int × Int × Int × Bool) : (Int × Int × Int) × Bool := ((r.1, (r.2.1, divS r.2.2.1 ((n : Int) * 4294967296))), r.2.2.2 || divO r.2.2.1 ((n : Int) * 4294967296))
theorem stL_64 (c : Nat) : ∀ (l : List S8) (lo hi s : Int) (o : Bool), I64 s → I64 (stL c l lo hi s o).2.2.1 := by
  intro l
  induction l with
  | nil => intro lo hi s o h; exact h
  | cons x l ih => intro lo hi s o h; exact ih _ _ _ _ (sat_i64 _)
theorem sgt {α : Type} {l : List α} {i : Nat} (h : i < l.length) : ∃ x, l[i]? = some x ∧ l.drop i = x :: l.drop (i + 1) :=
  ⟨l[i], List.getElem?_eq_getElem h, List.drop_eq_getElem_cons h⟩
theorem s25K (n : Nat) (v) : K25_0 (n + 1) v = B25_0_6 (K25_0 n) v := rfl
theorem s26K (n : Nat) (v) : K26_0 (n + 1) v = B26_0_7 (K26_0 n) v := rfl
def All8 (l : List S8) (c : Nat) : Prop := ∀ x ∈ l, I64 (ch x c)
theorem stats_end (l : List S8) (c : Nat) (h0 : 0 < l.length) (hl : l.length ≤ 200) {s : Int} (hs : I64 s) (lo hi : Int) (o : Bool) :
    ((F32_0 ((l.length : Int), o)).bind fun r => (F53_0 ((s, r.1), r.2)).bind fun q => some ((lo, (hi, q.1)), q.2)) = some (meanS l.length (lo, (hi, (s, o)))) ∧
    ((F34_0 ((l.length : Int), o)).bind fun r => (F55_0 ((s, r.1), r.2)).bind fun q => some ((lo, (hi, q.1)), q.2)) = some (meanS l.length (lo, (hi, (s, o)))) := by
  have hi64 : I64 ((l.length : Int) * 4294967296) := by unfold I64; omega
  rw [ofm_p (by unfold I64; omega), rof_eq (by omega), sat_in hi64, ovf_in hi64, Bool.or_false]
  unfold meanS
  generalize (l.length : Int) * 4294967296 = N at hi64 ⊢
  rw [Option.bind_some, Option.bind_some, div_p hs hi64, rdiv_eq hs hi64, Option.bind_some]
  exact ⟨rfl, rfl⟩
theorem stats_loop (l : List S8) (c : Nat) (hc : c < 8) (h0 : 0 < l.length) (hl : l.length ≤ 200) (h6 : All8 l c) (z : Int × Int × Int) : ∀ (d i n : Nat) (lo hi s : Int) (o : Bool), i + d = l.length → d < n → I64 s →
    K25_0 n ((l, ((c : Int), (lo, (hi, (s, (l, ((l.length : Int), (i : Int)))))))), o) = some (meanS l.length (stL c (l.drop i) lo hi s o)) ∧
    K26_0 n ((l, ((c : Int), (lo, (hi, (s, (i : Int)))))), (z, o)) = some (meanS l.length (stL c (l.drop i) lo hi s o)) := by
  intro d
  induction d with
  | zero =>
    intro i n lo hi s o h hn hs
    obtain ⟨n, rfl⟩ : ∃ m, n = m + 1 := ⟨n - 1, by omega⟩
    rw [s25K, s26K, List.drop_eq_nil_of_le (show l.length ≤ i by omega)]
    unfold B25_0_6 B26_0_7
    simp only [show decide ((i : Int) < (l.length : Int)) = false from decide_eq_false (by omega), cond_false, stL]
    exact stats_end l c h0 hl hs lo hi o
  | succ d ih =>
    intro i n lo hi s o h hn hs
    obtain ⟨n, rfl⟩ : ∃ m, n = m + 1 := ⟨n - 1, by omega⟩
    obtain ⟨x, hg, hd⟩ := sgt (l := l) (i := i) (by omega)
    have hx := h6 x (List.mem_of_getElem? hg)
    have e5 : IntKind.wrap .i64 ((i : Int) + 1) = ((i + 1 : Nat) : Int) := swN (by omega) (by omega)
    rw [s25K, s26K, hd]
    unfold B25_0_6 B26_0_7
    have hch : List.getD [x.1, x.2.1, x.2.2.1, x.2.2.2.1, x.2.2.2.2.1, x.2.2.2.2.2.1, x.2.2.2.2.2.2.1, x.2.2.2.2.2.2.2] c 0 = ch x c := rfl
    simp only [show decide ((i : Int) < (l.length : Int)) = true from decide_eq_true (by omega), cond_true, srdx hg, sidx hc, Option.bind_some, hch, add_p hs hx, radd_eq hs hx, e5]
    exact ih (i + 1) n _ _ _ _ (by omega) (by omega) (sat_i64 _)
theorem p20K (n : Nat) (v) : K20_0 (n + 1) v = B20_0_3 (K20_0 n) v := rfl
theorem plain_loop (l : List S8) (hl : l.length ≤ 900) : ∀ (d i n : Nat) (g : List S8), i + d = l.length → d < n → g = l.take i → K20_0 n ((l, (i : Int)), g) = some l := by
  intro d
  induction d with
  | zero =>
    intro i n g h hn hg
    obtain ⟨n, rfl⟩ : ∃ m, n = m + 1 := ⟨n - 1, by omega⟩
    rw [p20K]
    unfold B20_0_3
    simp only [show decide ((i : Int) < (l.length : Int)) = false from decide_eq_false (by omega), cond_false]
    rw [hg, List.take_of_length_le (by omega)]
  | succ d ih =>
    intro i n g h hn hg
    obtain ⟨n, rfl⟩ : ∃ m, n = m + 1 := ⟨n - 1, by omega⟩
    have hi : i < l.length := by omega
    have hx : l[i]? = some l[i] := List.getElem?_eq_getElem hi
    have e5 : IntKind.wrap .i64 ((i : Int) + 1) = ((i + 1 : Nat) : Int) := swN (by omega) (by omega)
    have hgl : g.length = i := by rw [hg, List.length_take]; omega
    rw [p20K]
    unfold B20_0_3
    simp only [show decide ((i : Int) < (l.length : Int)) = true from decide_eq_true (by omega), cond_true, srdx hx, Option.bind_some, e5, List.length_singleton]
    rw [decide_eq_true (show (g.length + 1) * 64 ≤ 140737488355328 by omega)]
    exact ih (i + 1) n _ (by omega) (by omega) (by rw [hg, List.take_succ_eq_append_getElem hi])
theorem plain_eq (l : List S8) (hl : l.length ≤ 900) : F20_0 l = some l := plain_loop l hl l.length 0 1000 [] (Nat.zero_add _) (by omega) rfl
theorem all8 {l : List S8} (h : ∀ x ∈ l, (Lit.int .i64 x.1).wf = true ∧ (Lit.int .i64 x.2.1).wf = true ∧ (Lit.int .i64 x.2.2.1).wf = true ∧ (Lit.int .i64 x.2.2.2.1).wf = true ∧ (Lit.int .i64 x.2.2.2.2.1).wf = true ∧ (Lit.int .i64 x.2.2.2.2.2.1).wf = true ∧ (Lit.int .i64 x.2.2.2.2.2.2.1).wf = true ∧ (Lit.int .i64 x.2.2.2.2.2.2.2).wf = true) (c : Nat) : All8 l c := by
  intro x hx
  obtain ⟨h0, h1, h2, h3, h4, h5, h6, h7⟩ := h x hx
  match c with
  | 0 => exact swf64 h0
  | 1 => exact swf64 h1
  | 2 => exact swf64 h2
  | 3 => exact swf64 h3
  | 4 => exact swf64 h4
  | 5 => exact swf64 h5
  | 6 => exact swf64 h6
  | 7 => exact swf64 h7
  | n + 8 => show I64 0; unfold I64; decide
def statsS (l : List S8) (c : Int) : (Int × Int × Int) × Bool :=
  match l with
  | [] => ((0, (0, 0)), false)
  | x :: r => if 0 ≤ c ∧ c < 8 then meanS (r.length + 1) (stL c.toNat (x :: r) (ch x c.toNat) (ch x c.toNat) 0 false) else ((0, (0, 0)), false)
theorem stats_eq (l : List S8) (c : Int) (hl : l.length ≤ 200) (h6 : ∀ k, All8 l k) : F25_0 ((l, c), false) = some (statsS l c) ∧ F26_0 ((l, c), false) = some (statsS l c) := by
  have E1 : ∀ K, E25_0 K ((l, c), false) = bif ((l.length : Int) == 0) then some ((0, (0, 0)), false) else bif decide (c < 0) then some ((0, (0, 0)), false) else bif decide (c ≥ 8) then some ((0, (0, 0)), false) else
    (rdx l 0).bind fun x => (idx c 8).bind fun i => (rdx l 0).bind fun y => (idx c 8).bind fun j => K ((l, (c, (ch x i, (ch y j, (0, (l, ((l.length : Int), 0))))))), false) := fun _ => rfl
  have E2 : ∀ K, E26_0 K ((l, c), false) = bif ((l.length : Int) == 0) then some ((0, (0, 0)), false) else bif decide (c < 0) then some ((0, (0, 0)), false) else bif decide (c > 7) then some ((0, (0, 0)), false) else
    (rdx l 0).bind fun x => (idx c 8).bind fun i => K ((l, (c, (ch x i, (ch x i, (0, 0))))), ((0, (0, 0)), false)) := fun _ => rfl
  have h1 : F25_0 ((l, c), false) = E25_0 (K25_0 1000) ((l, c), false) := rfl
  have h2 : F26_0 ((l, c), false) = E26_0 (K26_0 1000) ((l, c), false) := rfl
  rw [h1, h2, E1, E2]
  cases l with
  | nil => exact ⟨rfl, rfl⟩
  | cons x r =>
    have hb : (((x :: r).length : Int) == 0) = false := beq_false_of_ne (by rw [List.length_cons]; omega)
    have hS : statsS (x :: r) c = if 0 ≤ c ∧ c < 8 then meanS (r.length + 1) (stL c.toNat (x :: r) (ch x c.toNat) (ch x c.toNat) 0 false) else ((0, (0, 0)), false) := rfl
    rw [hb, cond_false, cond_false, hS]
    by_cases c1 : c < 0
    · rw [decide_eq_true c1, cond_true, cond_true, if_neg (by omega)]; exact ⟨rfl, rfl⟩
    · rw [decide_eq_false c1, cond_false, cond_false]
      by_cases c2 : c ≥ 8
      · rw [decide_eq_true c2, cond_true, decide_eq_true (show c > 7 by omega), cond_true, if_neg (by omega)]; exact ⟨rfl, rfl⟩
      · rw [decide_eq_false c2, cond_false, decide_eq_false (show ¬ c > 7 by omega), cond_false, if_pos (by omega)]
        obtain ⟨k, rfl⟩ : ∃ k : Nat, c = k := ⟨c.toNat, by omega⟩
        have hr : rdx (x :: r) 0 = some x := rfl
        have hi : idx (k : Int) 8 = some k := sidx (by omega)
        rw [hr, hi]
        simp only [Option.bind_some, Int.toNat_natCast]
        exact stats_loop (x :: r) k (by omega) (by simp) hl (h6 k) (0, (0, 0)) (r.length + 1) 0 1000 (ch x k) (ch x k) 0 false (by simp) (by rw [List.length_cons] at hl; omega) (by unfold I64; decide)
theorem law9_0 (v : A9_0) (h : Dom9_0 v) : F9_0 v = some true := by
  obtain ⟨l, c⟩ := v
  unfold F9_0
  simp only []
  by_cases c1 : (l.length : Int) > 200
  · rw [decide_eq_true c1, cond_true]
  · obtain ⟨h1, h2⟩ := stats_eq l c (by omega) (fun k => all8 h.1.2 k)
    rw [decide_eq_false c1, cond_false, h1, plain_eq l (by omega)]
    simp only [Option.bind_some]
    rw [h2]
    simp only [Option.bind_some, beq_self_eq_true, Bool.true_and, cond_true, awake41]

/- The mean is between the bounds. -/
theorem stL_over (c : Nat) : ∀ (l : List S8) (lo hi s : Int), (stL c l lo hi s true).2.2.2 = true := by
  intro l
  induction l with
  | nil => intro lo hi s; rfl
  | cons x l ih => intro lo hi s; exact ih _ _ _
theorem ovf_no {n : Int} (h : ovf n = false) : sat n = n := by
  unfold ovf at h
  simp at h
  exact sat_in (by unfold I64; omega)
theorem stL_mean (c : Nat) : ∀ (l : List S8) (lo hi s : Int) (k : Nat), (stL c l lo hi s false).2.2.2 = false → lo ≤ hi → lo * k ≤ s → s ≤ hi * k →
    (stL c l lo hi s false).1 ≤ (stL c l lo hi s false).2.1 ∧ (stL c l lo hi s false).1 * ((k + l.length : Nat) : Int) ≤ (stL c l lo hi s false).2.2.1 ∧ (stL c l lo hi s false).2.2.1 ≤ (stL c l lo hi s false).2.1 * ((k + l.length : Nat) : Int) := by
  intro l
  induction l with
  | nil => intro lo hi s k _ h0 h1 h2; exact ⟨h0, h1, h2⟩
  | cons x l ih =>
    intro lo hi s k ho h0 h1 h2
    rw [stL] at ho ⊢
    rw [Bool.false_or] at ho ⊢
    cases hv : ovf (s + ch x c) with
    | true => rw [hv, stL_over] at ho; cases ho
    | false =>
      rw [hv] at ho
      rw [ovf_no hv] at ho ⊢
      have hk : (0 : Int) ≤ k := Int.natCast_nonneg k
      have m1 : (if ch x c < lo then ch x c else lo) * ((k + 1 : Nat) : Int) ≤ s + ch x c := by
        have e : ((k + 1 : Nat) : Int) = (k : Int) + 1 := by omega
        rw [e, Int.mul_add, Int.mul_one]
        have h3 : (if ch x c < lo then ch x c else lo) * (k : Int) ≤ lo * k := Int.mul_le_mul_of_nonneg_right (by split <;> omega) hk
        have h4 : (if ch x c < lo then ch x c else lo) ≤ ch x c := by split <;> omega
        omega
      have m2 : s + ch x c ≤ (if ch x c > hi then ch x c else hi) * ((k + 1 : Nat) : Int) := by
        have e : ((k + 1 : Nat) : Int) = (k : Int) + 1 := by omega
        rw [e, Int.mul_add, Int.mul_one]
        have h3 : hi * (k : Int) ≤ (if ch x c > hi then ch x c else hi) * k := Int.mul_le_mul_of_nonneg_right (by split <;> omega) hk
        have h4 : ch x c ≤ (if ch x c > hi then ch x c else hi) := by split <;> omega
        omega
      have := ih _ _ _ (k + 1) ho (by split <;> split <;> omega) m1 m2
      rw [List.length_cons, show k + (l.length + 1) = k + 1 + l.length by omega]
      exact this
theorem law10_0 (v : A10_0) (h : Dom10_0 v) : F10_0 v = some true := by
  obtain ⟨l, c⟩ := v
  unfold F10_0
  simp only []
  by_cases c1 : (l.length : Int) > 200
  · rw [decide_eq_true c1, cond_true]
  · obtain ⟨h1, _⟩ := stats_eq l c (by omega) (fun k => all8 h.1.2 k)
    rw [decide_eq_false c1, cond_false, h1]
    simp only [Option.bind_some, awake41]
    cases ho : (statsS l c).2 with
    | true => rfl
    | false =>
      have key : (statsS l c).1.1 ≤ (statsS l c).1.2.2 ∧ (statsS l c).1.2.2 ≤ (statsS l c).1.2.1 := by
        cases l with
        | nil => exact ⟨Int.le_refl _, Int.le_refl _⟩
        | cons x r =>
          have hS : statsS (x :: r) c = if 0 ≤ c ∧ c < 8 then meanS (r.length + 1) (stL c.toNat (x :: r) (ch x c.toNat) (ch x c.toNat) 0 false) else ((0, (0, 0)), false) := rfl
          rw [hS] at ho ⊢
          by_cases c2 : 0 ≤ c ∧ c < 8
          · rw [if_pos c2] at ho ⊢
            unfold meanS at ho ⊢
            simp only [Bool.or_eq_false_iff] at ho
            obtain ⟨o1, o2⟩ := ho
            obtain ⟨m1, m2, m3⟩ := stL_mean c.toNat (x :: r) (ch x c.toNat) (ch x c.toNat) 0 0 o1 (Int.le_refl _) (by simp) (by simp)
            rw [List.length_cons, Nat.zero_add] at m2 m3
            generalize stL c.toNat (x :: r) (ch x c.toNat) (ch x c.toNat) 0 false = R at o1 o2 m1 m2 m3 ⊢
            have hN : (0 : Int) < ((r.length + 1 : Nat) : Int) := by omega
            generalize ((r.length + 1 : Nat) : Int) = N at hN m2 m3 o2 ⊢
            have hD : 0 < N * 4294967296 := by omega
            unfold divO at o2
            simp only [Bool.or_eq_false_iff] at o2
            have hdv : divS R.2.2.1 (N * 4294967296) = rhe (R.2.2.1 * 4294967296) (N * 4294967296) := by
              unfold divS
              rw [if_neg (by omega), ovf_no o2.2]
              unfold divR
              rw [if_pos hD]
            show R.1 ≤ divS R.2.2.1 (N * 4294967296) ∧ divS R.2.2.1 (N * 4294967296) ≤ R.2.1
            rw [hdv]
            constructor
            · apply rhe_ge hD
              rw [← Int.mul_assoc]
              exact Int.mul_le_mul_of_nonneg_right m2 (by decide)
            · apply rhe_le hD
              rw [← Int.mul_assoc]
              exact Int.mul_le_mul_of_nonneg_right m3 (by decide)
          · rw [if_neg c2]; exact ⟨Int.le_refl _, Int.le_refl _⟩
      rw [decide_eq_true key.1, decide_eq_true key.2]
      rfl
end Go.Proofs.Ytfhhpfhmplgndaa.Ev
