/- Chapter 43: an ideal is no longer than any lap. -/
import Derived.Test.YtgjglkogengmbaaMNum
import Derived.Test.YtgjglkogengmbaaXFns
set_option linter.unusedVariables false
set_option linter.unusedSimpArgs false
namespace Go.Proofs.Ytgjglkogengmbaa.Ev
open Go

theorem bi64 {x : Int} (h : -9223372036854775808 ≤ x ∧ x ≤ 9223372036854775807) : IntKind.wrap .i64 x = x := by rw [IntKind.wrap_i64]; omega
theorem bchk {p : Prop} [Decidable p] (h : p) {α : Type} (f : Unit → Option α) : (chk (decide p)).bind f = f () := by rw [decide_eq_true h]; rfl
theorem brdx {α : Type} {l : List α} {i : Nat} (h : i < l.length) : rdx l (i : Int) = some l[i] := by
  unfold rdx
  rw [decide_eq_true (by omega)]
  simp [List.getElem?_eq_getElem h]
theorem bgetD {l : List Int} {p : Nat} (h : p < l.length) : l[p]? = some (l.getD p 0) := by simp [List.getD, List.getElem?_eq_getElem h]
theorem bgetE {l : List Int} {p : Nat} (h : p < l.length) : l[p] = l.getD p 0 := by simp [List.getD, List.getElem?_eq_getElem h]
theorem bidx {i n : Nat} (h : i < n) : idx (i : Int) n = some i := by unfold idx; rw [decide_eq_true (by omega)]; simp
def sumN (f : Nat → Int) : Nat → Int
  | 0 => 0
  | k + 1 => sumN f k + f k
theorem sumN_bound {f : Nat → Int} {M : Int} : ∀ n, (∀ j, j < n → 0 ≤ f j ∧ f j ≤ M) → 0 ≤ sumN f n ∧ sumN f n ≤ n * M := by
  intro n
  induction n with
  | zero => intro _; simp [sumN]
  | succ n ih =>
    intro h
    have h1 := ih fun j hj => h j (by omega)
    have h2 := h n (by omega)
    simp only [sumN]
    have e : ((n + 1 : Nat) : Int) * M = n * M + M := by rw [Int.natCast_add, Int.add_mul]; simp
    rw [e]; omega
theorem sumN_le {f g : Nat → Int} : ∀ n, (∀ j, j < n → f j ≤ g j) → sumN f n ≤ sumN g n := by
  intro n
  induction n with
  | zero => intro _; exact Int.le_refl _
  | succ n ih =>
    intro h
    have h1 := ih fun j hj => h j (by omega)
    have h2 := h n (by omega)
    simp only [sumN]; omega
/-! ### few -/
theorem near_eq (n : Int) : ∃ b, F48_0 n = some b := by unfold F48_0; cases decide (n ≤ 18014398509481984) <;> exact ⟨_, rfl⟩
theorem timesK1 (n : Nat) (v) : (K27_0 (n + 1)).1 v = B27_0_2 (K27_0 n) v := rfl
theorem timesK2 (n : Nat) (v) : (K27_0 (n + 1)).2 v = B27_0_7 (K27_0 n) v := rfl
abbrev En : Type := Int × List (Int × Bool) × List Int
theorem times_go2 (e : En) (hl : e.2.2.length ≤ 300) : ∀ (d i n : Nat), d < n → i + d = e.2.2.length → ∃ b, (K27_0 n).2 ((i : Int), e) = some b := by
  intro d
  induction d with
  | zero =>
    intro i n hn hi
    obtain ⟨n, rfl⟩ : ∃ m, n = m + 1 := ⟨n - 1, by omega⟩
    rw [timesK2]
    unfold B27_0_7
    rw [decide_eq_false (by simp only []; omega), cond_false]
    exact ⟨_, rfl⟩
  | succ d ih =>
    intro i n hn hi
    obtain ⟨n, rfl⟩ : ∃ m, n = m + 1 := ⟨n - 1, by omega⟩
    have hil : i < e.2.2.length := by omega
    rw [timesK2]
    unfold B27_0_7
    rw [decide_eq_true (by simp only []; omega), cond_true]
    simp only [brdx hil, Option.bind_some, bi64 (show -9223372036854775808 ≤ (i : Int) + 1 ∧ (i : Int) + 1 ≤ 9223372036854775807 by omega)]
    obtain ⟨b, hb⟩ := near_eq e.2.2[i]
    rw [hb, Option.bind_some]
    cases b
    · exact ⟨false, rfl⟩
    · have := ih (i + 1) n (by omega) (by omega)
      rw [show ((i + 1 : Nat) : Int) = (i : Int) + 1 by omega] at this
      exact this
theorem times_go1 (e : En) (hk : e.2.1.length ≤ 100) (hl : e.2.2.length ≤ 300) : ∀ (d i n : Nat), d + 302 < n → i + d = e.2.1.length → ∃ b, (K27_0 n).1 ((i : Int), e) = some b := by
  intro d
  induction d with
  | zero =>
    intro i n hn hi
    obtain ⟨n, rfl⟩ : ∃ m, n = m + 1 := ⟨n - 1, by omega⟩
    rw [timesK1]
    unfold B27_0_2
    rw [decide_eq_false (by simp only []; omega), cond_false]
    exact times_go2 e hl e.2.2.length 0 n (by omega) (by omega)
  | succ d ih =>
    intro i n hn hi
    obtain ⟨n, rfl⟩ : ∃ m, n = m + 1 := ⟨n - 1, by omega⟩
    have hil : i < e.2.1.length := by omega
    rw [timesK1]
    unfold B27_0_2
    rw [decide_eq_true (by simp only []; omega), cond_true]
    simp only [brdx hil, Option.bind_some, bi64 (show -9223372036854775808 ≤ (i : Int) + 1 ∧ (i : Int) + 1 ≤ 9223372036854775807 by omega)]
    obtain ⟨b, hb⟩ := near_eq e.2.1[i].1
    rw [hb, Option.bind_some]
    cases b
    · exact ⟨false, rfl⟩
    · have := ih (i + 1) n (by omega) (by omega)
      rw [show ((i + 1 : Nat) : Int) = (i : Int) + 1 by omega] at this
      exact this
theorem times_eq (e : En) (hk : e.2.1.length ≤ 100) (hl : e.2.2.length ≤ 300) : ∃ b, F27_0 e = some b :=
  times_go1 e hk hl e.2.1.length 0 1000 (by omega) (by omega)
theorem fewK (n : Nat) (v) : K12_0 (n + 1) v = B12_0_2 (K12_0 n) v := rfl
theorem few1 (e : En) : ∃ b, F12_0 [e] = some b ∧ (b = true → e.2.1.length ≤ 100 ∧ e.2.2.length ≤ 300) := by
  show ∃ b, K12_0 (998 + 1 + 1) ([e], 0) = some b ∧ _
  rw [fewK]
  unfold B12_0_2
  simp only [List.length_cons, List.length_nil]
  rw [decide_eq_true (by decide), cond_true, decide_eq_true (by decide), cond_true]
  have hr : rdx [e] (0 : Int) = some e := rfl
  simp only [hr, Option.bind_some]
  by_cases h1 : (e.2.1.length : Int) > 100
  · rw [decide_eq_true h1, cond_true]; exact ⟨false, rfl, by simp⟩
  · rw [decide_eq_false h1, cond_false]
    by_cases h2 : (e.2.2.length : Int) > 300
    · rw [decide_eq_true h2, cond_true]; exact ⟨false, rfl, by simp⟩
    · rw [decide_eq_false h2, cond_false]
      obtain ⟨b, hb⟩ := times_eq e (by omega) (by omega)
      rw [hb, Option.bind_some]
      cases b
      · exact ⟨false, rfl, by simp⟩
      · simp only [Bool.not_true, cond_false]
        rw [fewK]
        refine ⟨true, ?_, fun _ => ⟨by omega, by omega⟩⟩
        rfl
/-! ### Ideal -/
theorem idK1 (n : Nat) (v) : (K18_0 (n + 1)).1 v = B18_0_5 (K18_0 n) v := rfl
theorem idK2 (n : Nat) (v) : (K18_0 (n + 1)).2 v = B18_0_12 (K18_0 n) v := rfl
def Within (b : List Int) : Prop := ∀ j, j < b.length → 0 ≤ b.getD j 0 ∧ b.getD j 0 ≤ 1125899906842624
theorem id_sum {b : List Int} (hb : Within b) (hl : b.length ≤ 300) : ∀ (d i f : Nat), d < f → i + d = b.length → (K18_0 f).2 ((sumN (fun j => b.getD j 0) i, ((b.length : Int), (i : Int))), b) = some (sumN (fun j => b.getD j 0) b.length, true) := by
  intro d
  induction d with
  | zero =>
    intro i f hf hi
    obtain ⟨f, rfl⟩ : ∃ m, f = m + 1 := ⟨f - 1, by omega⟩
    rw [idK2]
    unfold B18_0_12
    rw [decide_eq_false (by simp only []; omega), cond_false, show i = b.length by omega]
  | succ d ih =>
    intro i f hf hi
    obtain ⟨f, rfl⟩ : ∃ m, f = m + 1 := ⟨f - 1, by omega⟩
    have hil : i < b.length := by omega
    rw [idK2]
    unfold B18_0_12
    rw [decide_eq_true (by simp only []; omega), cond_true]
    have hs := sumN_bound (f := fun j => b.getD j 0) (M := 1125899906842624) (i + 1) fun j hj => hb j (by omega)
    have hs' : sumN (fun j => b.getD j 0) (i + 1) = sumN (fun j => b.getD j 0) i + b.getD i 0 := rfl
    simp only [bidx hil, Option.bind_some, bgetD hil, bi64 (show -9223372036854775808 ≤ (i : Int) + 1 ∧ (i : Int) + 1 ≤ 9223372036854775807 by omega)]
    rw [bi64 (by rw [← hs']; omega), ← hs']
    have := ih (i + 1) f (by omega) (by omega)
    rw [show ((i + 1 : Nat) : Int) = (i : Int) + 1 by omega] at this
    exact this
/-- The best of each sector so far. -/
def Least (S b : List Int) (n m : Nat) : Prop := b.length = n ∧ Within b ∧ ∀ k, k < m → b.getD (k % n) 0 ≤ S.getD k 0
theorem id_go {S : List Int} {n : Nat} (h1 : 1 ≤ n) (hn : n ≤ S.length) (hl : S.length ≤ 300) (hS : Within S) : ∀ (d i f : Nat) (b : List Int), d + 302 < f → i + d = S.length - n → Least S b n (n + i) →
    ∃ b', Least S b' n S.length ∧ (K18_0 f).1 (((n : Int), (S.drop n, (((S.drop n).length : Int), (i : Int)))), b) = some (sumN (fun j => b'.getD j 0) n, true) := by
  intro d
  induction d with
  | zero =>
    intro i f b hf hi hb
    obtain ⟨f, rfl⟩ : ∃ m, f = m + 1 := ⟨f - 1, by omega⟩
    have e : n + i = S.length := by omega
    rw [e] at hb
    refine ⟨b, hb, ?_⟩
    rw [idK1]
    unfold B18_0_5
    rw [decide_eq_false (by simp only [List.length_drop]; omega), cond_false]
    have := id_sum hb.2.1 (by rw [hb.1]; omega) b.length 0 f (by rw [hb.1]; omega) (by omega)
    rw [hb.1] at this
    simp only [hb.1]
    exact this
  | succ d ih =>
    intro i f b hf hi hb
    obtain ⟨f, rfl⟩ : ∃ m, f = m + 1 := ⟨f - 1, by omega⟩
    obtain ⟨hbl, hbw, hbm⟩ := hb
    have hil : i < (S.drop n).length := by rw [List.length_drop]; omega
    have hmod : i % n < n := Nat.mod_lt _ (by omega)
    have hx : (S.drop n)[i] = S.getD (n + i) 0 := by
      rw [List.getElem_drop]; exact bgetE (by omega)
    rw [idK1]
    unfold B18_0_5
    rw [decide_eq_true (by simp only []; omega), cond_true]
    have hc : chk ((n : Int) != 0) = some () := by
      have : ((n : Int) != 0) = true := by rw [bne_iff_ne]; omega
      rw [this]; rfl
    have hm : Int.tmod (i : Int) (n : Int) = ((i % n : Nat) : Int) := rfl
    simp only [brdx hil, Option.bind_some, hc, hm, bidx (show i % n < b.length by omega), bgetD (show i % n < b.length by omega), hx, bi64 (show -9223372036854775808 ≤ (i : Int) + 1 ∧ (i : Int) + 1 ≤ 9223372036854775807 by omega)]
    have hSx := hS (n + i) (by omega)
    have hbx := hbw (i % n) (by omega)
    obtain ⟨y, hy⟩ : ∃ y, y = (if S.getD (n + i) 0 < b.getD (i % n) 0 then S.getD (n + i) 0 else b.getD (i % n) 0) := ⟨_, rfl⟩
    rw [← hy]
    have hy1 : y ≤ S.getD (n + i) 0 ∧ y ≤ b.getD (i % n) 0 ∧ 0 ≤ y ∧ y ≤ 1125899906842624 := by rw [hy]; split <;> omega
    have hg : ∀ j, (b.set (i % n) y).getD j 0 = if i % n = j then (if i % n < b.length then y else 0) else b.getD j 0 := by
      intro j
      simp only [List.getD_eq_getElem?_getD, List.getElem?_set]
      split
      · split <;> simp_all
      · rfl
    have := ih (i + 1) f (b.set (i % n) y) (by omega) (by omega) (by
      refine ⟨by simp [hbl], fun j hj => ?_, fun k hk => ?_⟩
      · rw [hg]
        split
        · rw [if_pos (by omega)]; omega
        · exact hbw j (by simpa using hj)
      · rw [hg]
        split
        · rename_i he
          rw [if_pos (by omega)]
          by_cases hk2 : k < n + i
          · have := hbm k hk2; rw [← he] at this; omega
          · rw [show k = n + i by omega]; exact hy1.1
        · rename_i he
          have : k < n + i := by
            rcases Nat.lt_or_ge k (n + i) with h | h
            · exact h
            · exfalso; apply he; rw [show k = n + i by omega, Nat.add_mod_left]
          exact hbm k this)
    rw [show ((i + 1 : Nat) : Int) = (i : Int) + 1 by omega] at this
    exact this
theorem bclone_eq {v : List Int} (h : v.length ≤ 1000) : F35_0 v = some v := by
  show (chk _).bind _ = _
  rw [bchk (by simp; omega)]; rfl
theorem ideal_eq (e : En) {n : Nat} (h1 : 1 ≤ n) (hn : n ≤ e.2.2.length) (hl : e.2.2.length ≤ 300) (hS : Within e.2.2) : ∃ b, Least e.2.2 b n e.2.2.length ∧ F18_0 (e, (n : Int)) = some (sumN (fun j => b.getD j 0) n, true) := by
  unfold F18_0 E18_0
  rw [decide_eq_false (by simp only []; omega), cond_false, decide_eq_false (by simp only []; omega), cond_false]
  have c1 : cutx e.2.2 0 (n : Int) = some (e.2.2.take n) := by
    unfold cutx
    rw [decide_eq_true (by omega)]
    simp
  have c2 : cutx e.2.2 (n : Int) (e.2.2.length : Int) = some (e.2.2.drop n) := by
    unfold cutx
    rw [decide_eq_true (by omega)]
    simp
  simp only [c1, c2, Option.bind_some, bclone_eq (show (e.2.2.take n).length ≤ 1000 by simp; omega)]
  refine id_go h1 hn hl hS (e.2.2.length - n) 0 1000 (e.2.2.take n) (by omega) (by omega) ⟨by simp; omega, ?_, ?_⟩
  · intro j hj
    have hj' : j < n := by simp at hj; omega
    have e1 : (e.2.2.take n).getD j 0 = e.2.2.getD j 0 := by simp [List.getD_eq_getElem?_getD, List.getElem?_take, hj']
    rw [e1]; exact hS j (by omega)
  · intro k hk
    rw [Nat.mod_eq_of_lt (by omega)]
    have e1 : (e.2.2.take n).getD k 0 = e.2.2.getD k 0 := by simp [List.getD_eq_getElem?_getD, List.getElem?_take, show k < n by omega]
    rw [e1]; exact Int.le_refl _
theorem ideal_none (e : En) {n : Int} (h : n > (e.2.2.length : Int)) : F18_0 (e, n) = some (0, false) := by
  unfold F18_0 E18_0
  rw [decide_eq_false (by simp only []; omega), cond_false, decide_eq_true h, cond_true]
theorem awakeB : F17_0 () = some true := by kernel_rfl
/-! ### The law -/
theorem lwK1 (n : Nat) (v) : (K7_0 (n + 1)).1 v = B7_0_4 (K7_0 n) v := rfl
theorem lwK2 (n : Nat) (v) : (K7_0 (n + 1)).2.1 v = B7_0_12 (K7_0 n) v := rfl
theorem lwK3 (n : Nat) (v) : (K7_0 (n + 1)).2.2 v = B7_0_16 (K7_0 n) v := rfl
theorem lw_in (e : En) {n from_ : Nat} {t : Int} (hl : e.2.2.length ≤ 300) (hS : Within e.2.2) (hf : from_ + n ≤ e.2.2.length) (ht : t ≤ sumN (fun j => e.2.2.getD (from_ + j) 0) n) : ∀ (d i f : Nat), i + d = n →
    (K7_0 (f + d + 1)).2.2 (((n : Int), (t, (true, ((from_ : Int), (sumN (fun j => e.2.2.getD (from_ + j) 0) i, (i : Int)))))), e) = (K7_0 f).2.1 (((n : Int), (t, (true, ((from_ + n : Nat) : Int)))), e) := by
  intro d
  induction d with
  | zero =>
    intro i f hi
    obtain rfl : i = n := by omega
    rw [Nat.add_zero, lwK3]
    unfold B7_0_16
    rw [decide_eq_false (by simp only []; omega), cond_false]
    rw [decide_eq_false (show ¬ (t > sumN (fun j => e.2.2.getD (from_ + j) 0) i) by omega), cond_false]
    simp only [bi64 (show -9223372036854775808 ≤ (from_ : Int) + (i : Int) ∧ (from_ : Int) + (i : Int) ≤ 9223372036854775807 by omega)]
    rfl
  | succ d ih =>
    intro i f hi
    rw [lwK3]
    unfold B7_0_16
    rw [decide_eq_true (by simp only []; omega), cond_true]
    have hx : rdx e.2.2 ((from_ : Int) + (i : Int)) = some (e.2.2.getD (from_ + i) 0) := by
      have := brdx (l := e.2.2) (i := from_ + i) (by omega)
      rw [bgetE (by omega)] at this
      rw [← this]; rfl
    have hs := sumN_bound (f := fun j => e.2.2.getD (from_ + j) 0) (M := 1125899906842624) (i + 1) fun j hj => hS _ (by omega)
    have hs' : sumN (fun j => e.2.2.getD (from_ + j) 0) (i + 1) = sumN (fun j => e.2.2.getD (from_ + j) 0) i + e.2.2.getD (from_ + i) 0 := rfl
    simp only [bi64 (show -9223372036854775808 ≤ (from_ : Int) + (i : Int) ∧ (from_ : Int) + (i : Int) ≤ 9223372036854775807 by omega), hx, Option.bind_some, bi64 (show -9223372036854775808 ≤ (i : Int) + 1 ∧ (i : Int) + 1 ≤ 9223372036854775807 by omega)]
    rw [bi64 (by rw [← hs']; omega), ← hs']
    have := ih (i + 1) f (by omega)
    rw [show ((i + 1 : Nat) : Int) = (i : Int) + 1 by omega] at this
    exact this
theorem lw_out (e : En) {n : Nat} {b : List Int} (h1 : 1 ≤ n) (hn : n ≤ e.2.2.length) (hl : e.2.2.length ≤ 300) (hS : Within e.2.2) (hb : Least e.2.2 b n e.2.2.length) : ∀ (m k f : Nat), e.2.2.length + n - k * n ≤ m → 3 * m + 2 ≤ f →
    (K7_0 f).2.1 (((n : Int), (sumN (fun j => b.getD j 0) n, (true, ((k * n : Nat) : Int)))), e) = some true := by
  intro m
  induction m using Nat.strongRecOn with
  | _ m ih =>
    intro k f hm hf
    obtain ⟨f, rfl⟩ : ∃ q, f = q + 1 := ⟨f - 1, by omega⟩
    rw [lwK2]
    unfold B7_0_12
    simp only [bi64 (show -9223372036854775808 ≤ (e.2.2.length : Int) - (n : Int) ∧ (e.2.2.length : Int) - (n : Int) ≤ 9223372036854775807 by omega)]
    by_cases c : ((k * n : Nat) : Int) ≤ (e.2.2.length : Int) - (n : Int)
    · rw [decide_eq_true c, cond_true]
      have hle : sumN (fun j => b.getD j 0) n ≤ sumN (fun j => e.2.2.getD (k * n + j) 0) n := by
        refine sumN_le n fun j hj => ?_
        have h2 := hb.2.2 (k * n + j) (by omega)
        rw [Nat.add_comm, Nat.add_mul_mod_self_right, Nat.mod_eq_of_lt hj, Nat.add_comm] at h2
        exact h2
      have hi := lw_in e (n := n) (from_ := k * n) hl hS (by omega) hle n 0 (f - (n + 1)) (by omega)
      rw [show f - (n + 1) + n + 1 = f by omega] at hi
      refine hi.trans ?_
      have e3 : k * n + n = (k + 1) * n := by rw [Nat.add_mul, Nat.one_mul]
      rw [e3]
      exact ih (m - n) (by omega) (k + 1) _ (by rw [← e3]; omega) (by omega)
    · rw [decide_eq_false c]
      simp only [cond_false, cond_true, awakeB, Option.bind_some]
theorem lw_go (e : En) {n : Nat} (h1 : 1 ≤ n) (hl : e.2.2.length ≤ 300) : ∀ (d i f : Nat), i + d = e.2.2.length → d + 3000 ≤ f → (∀ j, j < i → 0 ≤ e.2.2.getD j 0 ∧ e.2.2.getD j 0 ≤ 1125899906842624) →
    (K7_0 f).1 (((n : Int), (i : Int)), e) = some true := by
  intro d
  induction d with
  | zero =>
    intro i f hi hf hS
    obtain ⟨f, rfl⟩ : ∃ q, f = q + 1 := ⟨f - 1, by omega⟩
    rw [lwK1]
    unfold B7_0_4
    rw [decide_eq_false (by simp only []; omega), cond_false]
    have hW : Within e.2.2 := fun j hj => hS j (by omega)
    by_cases c : (e.2.2.length : Int) < (n : Int)
    · rw [ideal_none e (by omega), Option.bind_some, decide_eq_true c, awakeB]; rfl
    · obtain ⟨b, hb1, hb2⟩ := ideal_eq e h1 (by omega) hl hW
      rw [hb2, Option.bind_some, decide_eq_false c, cond_false]
      have := lw_out e h1 (by omega) hl hW hb1 (e.2.2.length + n) 0 f (by omega) (by omega)
      rw [Nat.zero_mul] at this
      exact this
  | succ d ih =>
    intro i f hi hf hS
    obtain ⟨f, rfl⟩ : ∃ q, f = q + 1 := ⟨f - 1, by omega⟩
    have hil : i < e.2.2.length := by omega
    rw [lwK1]
    unfold B7_0_4
    rw [decide_eq_true (by simp only []; omega), cond_true]
    simp only [brdx hil, Option.bind_some, bgetE hil, bi64 (show -9223372036854775808 ≤ (i : Int) + 1 ∧ (i : Int) + 1 ≤ 9223372036854775807 by omega)]
    by_cases c1 : e.2.2.getD i 0 < 0
    · rw [decide_eq_true c1, cond_true]
    · rw [decide_eq_false c1, cond_false]
      by_cases c2 : e.2.2.getD i 0 > 1125899906842624
      · rw [decide_eq_true c2, cond_true]
      · rw [decide_eq_false c2, cond_false]
        have := ih (i + 1) f (by omega) (by omega) (fun j hj => by
          by_cases hj2 : j < i
          · exact hS j hj2
          · rw [show j = i by omega]; omega)
        rw [show ((i + 1 : Nat) : Int) = (i : Int) + 1 by omega] at this
        exact this
theorem law7_0 (v) (h : Dom7_0 v) : F7_0 v = some true := by
  unfold F7_0 E7_0
  obtain ⟨e, n⟩ := v
  obtain ⟨b, hb1, hb2⟩ := few1 e
  simp only [hb1, Option.bind_some]
  cases b with
  | false => rfl
  | true =>
    obtain ⟨h1, h2⟩ := hb2 rfl
    simp only [Bool.not_true, cond_false]
    by_cases c : n < 1
    · rw [decide_eq_true c]; rfl
    · rw [decide_eq_false c, cond_false]
      obtain ⟨m, rfl⟩ := Int.eq_ofNat_of_zero_le (show 0 ≤ n by omega)
      exact lw_go e (by omega) h2 e.2.2.length 0 4000 (by omega) (by omega) (by simp)
end Go.Proofs.Ytgjglkogengmbaa.Ev
