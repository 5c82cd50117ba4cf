/- Chapter 42: ghosts that were noted. -/
import Derived.Test.YtfhhpfhmplgndaaMSign
set_option linter.unusedVariables false
set_option linter.unusedSimpArgs false
namespace Go.Proofs.Ytfhhpfhmplgndaa.Ev
open Go

set_option maxRecDepth 100000 in
theorem awake42 : F13_0 () = some true := by kernel_rfl
theorem gw64 {x : Int} (h : -9223372036854775808 ≤ x ∧ x ≤ 9223372036854775807) : IntKind.wrap .i64 x = x := by rw [IntKind.wrap_i64]; omega
theorem gwN {x : Int} {n : Nat} (h : x = n) (hn : n ≤ 9223372036854775807) : IntKind.wrap .i64 x = (n : Int) := by rw [gw64 (by omega), h]
theorem grdx {α : Type} {l : List α} {i : Nat} {x : α} (h : l[i]? = some x) : rdx l (i : Int) = some x := by
  unfold rdx
  rw [decide_eq_true (by omega)]
  simpa using h
theorem gidx {i n : Nat} (h : i < n) : idx (i : Int) n = some i := by
  unfold idx
  rw [decide_eq_true (by omega)]
  simp
theorem gget {α : Type} {l : List α} {i : Nat} (h : i < l.length) : ∃ x, l[i]? = some x := ⟨_, List.getElem?_eq_getElem h⟩
theorem glt {α : Type} {l : List α} {i : Nat} {x : α} (h : l[i]? = some x) : i < l.length := by
  rcases Nat.lt_or_ge i l.length with hk | hk
  · exact hk
  · rw [List.getElem?_eq_none hk] at h; cases h
def Sorted (g : List Int) : Prop := ∀ (i j : Nat) (x y : Int), i ≤ j → g[i]? = some x → g[j]? = some y → x ≤ y
def All64 (g : List Int) : Prop := ∀ x ∈ g, I64 x

theorem last_eq (g : List Int) (hg : g.length ≤ 900) (n : Int) : ∃ m, F57_0 (g, n) = some m ∧ n ≤ m ∧ (∀ x, g[g.length - 1]? = some x → x ≤ m) ∧ (m = n ∨ m ∈ g) := by
  unfold F57_0
  by_cases h : g.length = 0
  · obtain rfl : g = [] := List.eq_nil_of_length_eq_zero h
    exact ⟨n, rfl, Int.le_refl _, fun x hx => by simp at hx, Or.inl rfl⟩
  · obtain ⟨x, hx⟩ := gget (l := g) (i := g.length - 1) (by omega)
    have e1 : IntKind.wrap .i64 ((g.length : Int) - 1) = ((g.length - 1 : Nat) : Int) := gwN (by omega) (by omega)
    simp only [show ((g.length : Int) == 0) = false from beq_false_of_ne (by omega), cond_false, e1, grdx hx, Option.bind_some]
    refine ⟨_, rfl, by split <;> omega, fun y hy => ?_, ?_⟩
    · rw [hx] at hy; cases hy; split <;> omega
    · split
      · exact Or.inr (List.mem_of_getElem? hx)
      · exact Or.inl rfl
theorem noteg_eq (g : List Int) (hg : g.length ≤ 900) (n : Int) : ∃ m, F27_0 (g, n) = some (g ++ [m]) ∧ n ≤ m ∧ (∀ x, g[g.length - 1]? = some x → x ≤ m) ∧ (m = n ∨ m ∈ g) := by
  obtain ⟨m, e, h⟩ := last_eq g hg n
  refine ⟨m, ?_, h⟩
  have e0 : F56_r g = some g := by
    show (chk (decide ((0 + g.length) * 8 ≤ 140737488355328))).bind _ = some g
    rw [decide_eq_true (by omega)]; rfl
  unfold F27_0
  simp only []
  change (F56_r g).bind _ = _
  rw [e0, e]
  simp only [Option.bind_some]
  rw [decide_eq_true (by simp; omega)]; rfl
theorem sorted_snoc {g : List Int} {m : Int} (h : Sorted g) (hm : ∀ x, g[g.length - 1]? = some x → x ≤ m) : Sorted (g ++ [m]) := by
  intro i j x y hij hi hj
  rcases Nat.lt_or_ge j g.length with hl | hl
  · rw [List.getElem?_append_left hl] at hj
    rw [List.getElem?_append_left (by omega)] at hi
    exact h i j x y hij hi hj
  · have hj2 := glt hj
    rw [List.length_append, List.length_singleton] at hj2
    obtain rfl : j = g.length := by omega
    rw [List.getElem?_append_right (Nat.le_refl _), Nat.sub_self] at hj
    obtain rfl : m = y := by simpa using hj
    rcases Nat.lt_or_ge i g.length with hl2 | hl2
    · rw [List.getElem?_append_left hl2] at hi
      obtain ⟨z, hz⟩ := gget (l := g) (i := g.length - 1) (by omega)
      exact Int.le_trans (h i (g.length - 1) x z (by omega) hi hz) (hm z hz)
    · obtain rfl : i = g.length := by omega
      rw [List.getElem?_append_right (Nat.le_refl _), Nat.sub_self] at hi
      obtain rfl : m = x := by simpa using hi
      exact Int.le_refl _
theorem n11K (n : Nat) (v) : K11_0 (n + 1) v = B11_0_3 (K11_0 n) v := rfl
theorem noted_loop (l : List Int) (hl : l.length ≤ 200) (h64 : All64 l) : ∀ (d i n : Nat) (g : List Int), i + d = l.length → d < n → g.length = i → Sorted g → All64 g → (∀ (k : Nat) (x y : Int), g[k]? = some x → l[k]? = some y → y ≤ x) →
    ∃ g', K11_0 n ((l, (i : Int)), g) = some g' ∧ g'.length = l.length ∧ Sorted g' ∧ All64 g' ∧ (∀ (k : Nat) (x y : Int), g'[k]? = some x → l[k]? = some y → y ≤ x) := by
  intro d
  induction d with
  | zero =>
    intro i n g h hn hg hs h6 hle
    obtain ⟨n, rfl⟩ : ∃ m, n = m + 1 := ⟨n - 1, by omega⟩
    refine ⟨g, ?_, by omega, hs, h6, hle⟩
    rw [n11K]
    unfold B11_0_3
    simp only [show decide ((i : Int) < (l.length : Int)) = false from decide_eq_false (by omega), cond_false]
  | succ d ih =>
    intro i n g h hn hg hs h6 hle
    obtain ⟨n, rfl⟩ : ∃ m, n = m + 1 := ⟨n - 1, by omega⟩
    obtain ⟨a, ha⟩ := gget (l := l) (i := i) (by omega)
    obtain ⟨m, e, h1, h2, h3⟩ := noteg_eq g (by omega) a
    have e5 : IntKind.wrap .i64 ((i : Int) + 1) = ((i + 1 : Nat) : Int) := gwN (by omega) (by omega)
    rw [n11K]
    unfold B11_0_3
    simp only [show decide ((i : Int) < (l.length : Int)) = true from decide_eq_true (by omega), cond_true, grdx ha, Option.bind_some, e, e5]
    refine ih (i + 1) n (g ++ [m]) (by omega) (by omega) (by simp [hg]) (sorted_snoc hs h2) ?_ ?_
    · intro x hx
      rcases List.mem_append.1 hx with hx | hx
      · exact h6 x hx
      · rw [List.mem_singleton.1 hx]
        rcases h3 with rfl | h3
        · exact h64 _ (List.mem_of_getElem? ha)
        · exact h6 _ h3
    · intro k x y hx hy
      rcases Nat.lt_or_ge k g.length with hk | hk
      · rw [List.getElem?_append_left hk] at hx
        exact hle k x y hx hy
      · have hk2 := glt hx
        rw [List.length_append, List.length_singleton] at hk2
        obtain rfl : k = g.length := by omega
        rw [List.getElem?_append_right (Nat.le_refl _), Nat.sub_self] at hx
        obtain rfl : m = x := by simpa using hx
        rw [hg, ha] at hy
        cases hy
        exact h1
theorem noted_eq (l : List Int) (hl : l.length ≤ 200) (h64 : All64 l) : ∃ g, F11_0 l = some g ∧ g.length = l.length ∧ Sorted g ∧ All64 g ∧ (∀ (k : Nat) (x y : Int), g[k]? = some x → l[k]? = some y → y ≤ x) :=
  noted_loop l hl h64 l.length 0 1000 [] (Nat.zero_add _) (by omega) rfl (fun i j x y _ hi => by simp at hi) (fun x hx => by simp at hx) (fun k x y hx => by simp at hx)

/- first -/
theorem less_fx (a b : Int) : F92_0 (a, b) = some (decide (a < b)) := by
  unfold F92_0
  simp only [F110_0, bne_self_eq_false, Option.bind_some, cond_false]
theorem s58K (n : Nat) (v) : K58_0 (n + 1) v = B58_0_2 (K58_0 n) v := rfl
theorem sorted_loop (g : List Int) (hg : g.length ≤ 900) (hs : Sorted g) : ∀ (i n : Nat), i < g.length ∨ i = 0 → i < n → K58_0 n (g, (i : Int)) = some true := by
  intro i
  induction i with
  | zero =>
    intro n h hn
    obtain ⟨n, rfl⟩ : ∃ m, n = m + 1 := ⟨n - 1, by omega⟩
    rw [s58K]; rfl
  | succ i ih =>
    intro n h hn
    obtain ⟨n, rfl⟩ : ∃ m, n = m + 1 := ⟨n - 1, by omega⟩
    have hi : i + 1 < g.length := by omega
    obtain ⟨x, hx⟩ := gget (l := g) (i := i + 1) hi
    obtain ⟨y, hy⟩ := gget (l := g) (i := i) (by omega)
    have e5 : IntKind.wrap .i64 (((i + 1 : Nat) : Int) - 1) = (i : Int) := gwN (by omega) (by omega)
    have hle := hs i (i + 1) y x (by omega) hy hx
    rw [s58K]
    unfold B58_0_2
    simp only [show decide (((i + 1 : Nat) : Int) > 0) = true from decide_eq_true (by omega), cond_true, e5, grdx hx, grdx hy, Option.bind_some, less_fx, decide_eq_false (show ¬ x < y by omega), cond_false]
    exact ih n (by omega) (by omega)
theorem sorted_eq (g : List Int) (hg : g.length ≤ 900) (hs : Sorted g) : F58_0 g = some true := by
  have E : ∀ K, E58_0 K g = K (g, IntKind.wrap .i64 ((g.length : Int) - 1)) := fun _ => rfl
  refine (E (K58_0 1000)).trans ?_
  by_cases h : g.length = 0
  · obtain rfl : g = [] := List.eq_nil_of_length_eq_zero h
    refine (s58K 999 _).trans ?_
    rfl
  · rw [gwN (n := g.length - 1) (by omega) (by omega)]
    exact sorted_loop g hg hs (g.length - 1) 1000 (by omega) (by omega)
theorem s61K (n : Nat) (v) : K61_0 (n + 1) v = B61_0_2 (K61_0 n) v := rfl
theorem search_loop (g : List Int) (hg : g.length ≤ 900) (a : Int) : ∀ (d i j n : Nat), i + d = j → j ≤ g.length → d < n → (i = 0 ∨ ∃ x, g[i - 1]? = some x ∧ x < a) → (j = g.length ∨ ∃ x, g[j]? = some x ∧ a ≤ x) →
    ∃ k, k ≤ g.length ∧ K61_0 n (((i : Int), (j : Int)), (a, g)) = some ((k : Int), (a, g)) ∧ (k = 0 ∨ ∃ x, g[k - 1]? = some x ∧ x < a) ∧ (k = g.length ∨ ∃ x, g[k]? = some x ∧ a ≤ x) := by
  intro d
  induction d using Nat.strongRecOn with
  | _ d ih =>
    intro i j n h hj hn h1 h2
    obtain ⟨n, rfl⟩ : ∃ m, n = m + 1 := ⟨n - 1, by omega⟩
    rw [s61K]
    unfold B61_0_2
    by_cases hd : d = 0
    · have hij : i = j := by omega
      subst hij
      refine ⟨i, hj, ?_, h1, h2⟩
      simp only [decide_eq_false (show ¬ (i : Int) < (i : Int) by omega), cond_false]
    · have hw : IntKind.wrap .i64 ((i : Int) + (j : Int)) = ((i + j : Nat) : Int) := gwN (by omega) (by omega)
      have hw2 : IntKind.wrap .u64 ((i + j : Nat) : Int) = ((i + j : Nat) : Int) := wrap_u64 ⟨by omega, by omega⟩
      have hdv : Int.fdiv ((i + j : Nat) : Int) (2 ^ 1) = (((i + j) / 2 : Nat) : Int) := by
        rw [Int.fdiv_eq_ediv_of_nonneg _ (by decide)]
        show ((i + j : Nat) : Int) / 2 = _
        omega
      have hw3 : IntKind.wrap .i64 (((i + j) / 2 : Nat) : Int) = (((i + j) / 2 : Nat) : Int) := gwN rfl (by omega)
      obtain ⟨x, hx⟩ := gget (l := g) (i := (i + j) / 2) (by omega)
      have hw4 : IntKind.wrap .i64 ((((i + j) / 2 : Nat) : Int) + 1) = (((i + j) / 2 + 1 : Nat) : Int) := gwN (by omega) (by omega)
      have e62 : F62_0 ((((i + j) / 2 : Nat) : Int), (a, g)) = some (decide (x ≥ a), (a, g)) := by
        unfold F62_0
        simp only [grdx hx, Option.bind_some]
      simp only [decide_eq_true (show (i : Int) < (j : Int) by omega), cond_true, hw, hw2, hdv, hw3, e62, Option.bind_some, hw4]
      by_cases hc : x ≥ a
      · rw [decide_eq_true hc, Bool.not_true, cond_false]
        exact ih ((i + j) / 2 - i) (by omega) i ((i + j) / 2) n (by omega) (by omega) (by omega) h1 (Or.inr ⟨x, hx, hc⟩)
      · rw [decide_eq_false hc, Bool.not_false, cond_true]
        exact ih (j - ((i + j) / 2 + 1)) (by omega) ((i + j) / 2 + 1) j n (by omega) hj (by omega) (Or.inr ⟨x, by simpa using hx, by omega⟩) h2
def FirstP (g : List Int) (a : Int) (k : Nat) : Prop := k ≤ g.length ∧ (k = 0 ∨ ∃ x, g[k - 1]? = some x ∧ x < a) ∧ (k = g.length ∨ ∃ x, g[k]? = some x ∧ a ≤ x)
theorem first_eq (g : List Int) (hg : g.length ≤ 900) (hs : Sorted g) (a : Int) : ∃ k : Nat, F28_0 (g, a) = some (k : Int) ∧ FirstP g a k := by
  obtain ⟨k, h1, h2, h3, h4⟩ := search_loop g hg a g.length 0 g.length 1000 (Nat.zero_add _) (Nat.le_refl _) (by omega) (Or.inl rfl) (Or.inl rfl)
  refine ⟨k, ?_, h1, h3, h4⟩
  have e : F61_0 ((g.length : Int), (a, g)) = some ((k : Int), (a, g)) := h2
  unfold F28_0
  simp only []
  rw [sorted_eq g hg hs, e]
  rfl
theorem between_eq {a b : Int} (ha : I64 a) (hb : I64 b) : F30_0 (a, b) = some (wd (b - a)) := by
  unfold I64 at ha hb
  unfold F30_0
  simp only []
  have w1 := wd_ok (n := a) (by unfold I128; omega)
  have w2 := wd_ok (n := b) (by unfold I128; omega)
  rw [ofw_eq (by unfold I64; omega)]
  simp only [Option.bind_some]
  rw [negw_eq w1 (by rw [wv_wd]; unfold I128; omega), ofw_eq (by unfold I64; omega)]
  simp only [Option.bind_some, wv_wd]
  rw [addw_eq w2 (wd_ok (by unfold I128; omega)) (by rw [wv_wd, wv_wd]; unfold I128; omega), wv_wd, wv_wd]
  rfl
def whenS (g : List Int) (a : Int) (k : Nat) : Int × Bool :=
  if k = g.length then (0, false) else if k = 0 then (0, true) else if g.getD k 0 = a then ((k : Int) * 4294967296, true)
  else (((k : Int) - 1) * 4294967296 + partS (a - g.getD (k - 1) 0) (g.getD k 0 - g.getD (k - 1) 0), true)
theorem when_eq (g : List Int) (hg : g.length ≤ 900) (hs : Sorted g) (h6 : All64 g) (a : Int) (ha : I64 a) : ∃ k : Nat, F12_0 (g, a) = some (whenS g a k) ∧ FirstP g a k := by
  obtain ⟨k, e, hk⟩ := first_eq g hg hs a
  refine ⟨k, ?_, hk⟩
  obtain ⟨h1, h2, h3⟩ := hk
  have p32 : (2 : Int) ^ 32 = 4294967296 := by decide
  unfold F12_0 whenS
  simp only []
  rw [e]
  simp only [Option.bind_some, p32]
  by_cases c1 : k = g.length
  · rw [if_pos c1, show ((k : Int) == (g.length : Int)) = true by simp [c1], cond_true]
  · rw [if_neg c1, show ((k : Int) == (g.length : Int)) = false from beq_false_of_ne (by omega), cond_false]
    by_cases c2 : k = 0
    · rw [if_pos c2, show ((k : Int) == 0) = true by simp [c2], cond_true]
    · rw [if_neg c2, show ((k : Int) == 0) = false from beq_false_of_ne (by omega), cond_false]
      obtain ⟨x, hx, hxa⟩ : ∃ x, g[k - 1]? = some x ∧ x < a := by rcases h2 with h2 | h2; exact absurd h2 c2; exact h2
      obtain ⟨y, hy, hya⟩ : ∃ x, g[k]? = some x ∧ a ≤ x := by rcases h3 with h3 | h3; exact absurd h3 c1; exact h3
      have ex : g.getD (k - 1) 0 = x := by rw [List.getD_eq_getElem?_getD, hx]; rfl
      have ey : g.getD k 0 = y := by rw [List.getD_eq_getElem?_getD, hy]; rfl
      have x6 := h6 _ (List.mem_of_getElem? hx)
      have y6 := h6 _ (List.mem_of_getElem? hy)
      have e1 : IntKind.wrap .i64 ((k : Int) - 1) = ((k - 1 : Nat) : Int) := gwN (by omega) (by omega)
      have e2 : IntKind.wrap .i64 ((k : Int) * 4294967296) = (k : Int) * 4294967296 := gw64 (by omega)
      have e3 : IntKind.wrap .i64 (((k - 1 : Nat) : Int) * 4294967296) = ((k - 1 : Nat) : Int) * 4294967296 := gw64 (by omega)
      simp only [grdx hy, Option.bind_some, ex, ey, e1, e2, e3, grdx hx]
      by_cases c3 : y = a
      · rw [if_pos c3, show (y == a) = true by simp [c3], cond_true]
      · have hpi := partS_in (a - x) (y - x)
        unfold I64 at ha x6 y6
        rw [if_neg c3, show (y == a) = false by simp [c3], cond_false, between_eq (by unfold I64; omega) (by unfold I64; omega)]
        simp only [Option.bind_some]
        rw [between_eq (by unfold I64; omega) (by unfold I64; omega)]
        simp only [Option.bind_some]
        rw [partw_eq (wd_ok (by unfold I128; omega)) (wd_ok (by unfold I128; omega)), wv_wd, wv_wd]
        simp only [Option.bind_some]
        rw [gw64 (x := partS (a - x) (y - x)) (by omega), gw64 (by omega), show ((k - 1 : Nat) : Int) = (k : Int) - 1 by omega]
theorem partS_mono {a b c : Int} (h : a ≤ b) (hb : b < c) : partS a c ≤ partS b c := by
  have := (partS_in b c).1
  unfold partS at this ⊢
  by_cases h1 : a < 0 ∨ c ≤ a
  · rw [if_pos h1]; exact this
  · rw [if_neg h1, if_neg (by omega)]
    exact Int.ediv_le_ediv (by omega) (Int.mul_le_mul_of_nonneg_right h (by decide))

/- GhostRises -/
theorem k3gK (n : Nat) (v) : K3_0 (n + 1) v = B3_0_7 (K3_0 n) v := rfl
theorem when_mono {g : List Int} (hg : g.length ≤ 900) (hs : Sorted g) {a b : Int} (hab : a ≤ b) {i j : Nat} (hi : FirstP g a i) (hj : FirstP g b j) (hq : (whenS g b j).2 = true) : (whenS g a i).2 = true ∧ (whenS g a i).1 ≤ (whenS g b j).1 := by
  obtain ⟨i1, i2, i3⟩ := hi
  obtain ⟨j1, j2, j3⟩ := hj
  have hjl : j ≠ g.length := by intro h; unfold whenS at hq; rw [if_pos h] at hq; cases hq
  obtain ⟨y, hy, hyb⟩ : ∃ x, g[j]? = some x ∧ b ≤ x := by rcases j3 with h | h; exact absurd h hjl; exact h
  have hij : i ≤ j := by
    rcases Nat.lt_or_ge j i with h | h
    · rcases i2 with h0 | ⟨x, hx, hxa⟩
      · omega
      · have := hs j (i - 1) y x (by omega) hy hx
        omega
    · exact h
  have hil : i ≠ g.length := by omega
  have ey : g.getD j 0 = y := by rw [List.getD_eq_getElem?_getD, hy]; rfl
  unfold whenS
  rw [if_neg hil, if_neg hjl]
  by_cases ci : i = 0
  · rw [if_pos ci]
    refine ⟨rfl, ?_⟩
    split
    · exact Int.le_refl _
    · split
      · show (0 : Int) ≤ (j : Int) * 4294967296; omega
      · have := (partS_in (b - g.getD (j - 1) 0) (g.getD j 0 - g.getD (j - 1) 0)).1
        show (0 : Int) ≤ ((j : Int) - 1) * 4294967296 + _
        omega
  · rw [if_neg ci, if_neg (show j ≠ 0 by omega)]
    obtain ⟨x, hx, hxa⟩ : ∃ x, g[i]? = some x ∧ a ≤ x := by rcases i3 with h | h; exact absurd h hil; exact h
    have ex : g.getD i 0 = x := by rw [List.getD_eq_getElem?_getD, hx]; rfl
    have p1 := partS_in (a - g.getD (i - 1) 0) (g.getD i 0 - g.getD (i - 1) 0)
    have p2 := partS_in (b - g.getD (j - 1) 0) (g.getD j 0 - g.getD (j - 1) 0)
    refine ⟨by split <;> rfl, ?_⟩
    by_cases hlt : i < j
    · split
      · split
        · show (i : Int) * 4294967296 ≤ (j : Int) * 4294967296; omega
        · show (i : Int) * 4294967296 ≤ ((j : Int) - 1) * 4294967296 + _; omega
      · split
        · show ((i : Int) - 1) * 4294967296 + _ ≤ (j : Int) * 4294967296; omega
        · show ((i : Int) - 1) * 4294967296 + _ ≤ ((j : Int) - 1) * 4294967296 + _; omega
    · obtain rfl : i = j := by omega
      have hxy : x = y := by rw [hx] at hy; exact Option.some.inj hy
      subst hxy
      rw [ex]
      rw [ex] at p1 p2
      by_cases c1 : x = b
      · rw [if_pos c1]
        split
        · exact Int.le_refl _
        · show ((i : Int) - 1) * 4294967296 + _ ≤ (i : Int) * 4294967296; omega
      · rw [if_neg c1, if_neg (show ¬ x = a by omega)]
        have := partS_mono (a := a - g.getD (i - 1) 0) (b := b - g.getD (i - 1) 0) (c := x - g.getD (i - 1) 0) (by omega) (by omega)
        show ((i : Int) - 1) * 4294967296 + _ ≤ ((i : Int) - 1) * 4294967296 + _
        omega
theorem k3g_loop (l g : List Int) (hl : l.length ≤ 200) (hg : g.length = l.length) (hs : Sorted g) (h6 : All64 g) (hle : ∀ (k : Nat) (x y : Int), g[k]? = some x → l[k]? = some y → y ≤ x) (a b : Int) (ha : I64 a) (hb : I64 b) (hab : a ≤ b) : ∀ (d i n : Nat), i + d = l.length ∨ (d = 0 ∧ l.length ≤ i) → 0 < i → i ≤ 1000 → d < n → K3_0 n ((l, (a, (b, (i : Int)))), g) = some true := by
  intro d
  induction d with
  | zero =>
    intro i n h h0 h1 hn
    obtain ⟨n, rfl⟩ : ∃ m, n = m + 1 := ⟨n - 1, by omega⟩
    obtain ⟨ka, e1, p1⟩ := when_eq g (by omega) hs h6 a ha
    obtain ⟨kb, e2, p2⟩ := when_eq g (by omega) hs h6 b hb
    have hm := when_mono (by omega) hs hab p1 p2
    rw [k3gK]
    unfold B3_0_7
    simp only [show decide ((i : Int) < (g.length : Int)) = false from decide_eq_false (by omega), cond_false, e1, e2, Option.bind_some, awake42]
    cases hq : (whenS g b kb).2 with
    | false => rfl
    | true =>
      obtain ⟨m1, m2⟩ := hm hq
      rw [m1, decide_eq_true m2]
      rfl
  | succ d ih =>
    intro i n h h0 h1 hn
    obtain ⟨n, rfl⟩ : ∃ m, n = m + 1 := ⟨n - 1, by omega⟩
    obtain ⟨x, hx⟩ := gget (l := g) (i := i) (by omega)
    obtain ⟨y, hy⟩ := gget (l := g) (i := i - 1) (by omega)
    obtain ⟨z, hz⟩ := gget (l := l) (i := i) (by omega)
    have e6 : IntKind.wrap .i64 ((i : Int) - 1) = ((i - 1 : Nat) : Int) := gwN (by omega) (by omega)
    have e5 : IntKind.wrap .i64 ((i : Int) + 1) = ((i + 1 : Nat) : Int) := gwN (by omega) (by omega)
    have l1 := hs (i - 1) i y x (by omega) hy hx
    have l2 := hle i x z hx hz
    rw [k3gK]
    unfold B3_0_7
    simp only [show decide ((i : Int) < (g.length : Int)) = true from decide_eq_true (by omega), cond_true, e6, e5, gidx (show i < g.length by omega), gidx (show i - 1 < g.length by omega), hx, hy, grdx hz, Option.bind_some, decide_eq_false (show ¬ x < y by omega), decide_eq_false (show ¬ x < z by omega), cond_false]
    exact ih (i + 1) n (by omega) (by omega) (by omega) (by omega)
theorem wf64 {n : Int} (h : (Lit.int .i64 n).wf = true) : I64 n := by
  have : IntKind.i64.min ≤ n ∧ n ≤ IntKind.i64.max := by simpa [Lit.wf] using h
  exact this
theorem law3_0 (v : A3_0) (h : Dom3_0 v) : F3_0 v = some true := by
  obtain ⟨l, a, b⟩ := v
  obtain ⟨⟨_, h1⟩, ha, hb⟩ := h
  have E : ∀ K, E3_0 K (l, (a, b)) = bif decide ((l.length : Int) > 200) then some true else bif decide (a > b) then some true else
    (F11_0 l).bind fun g => bif ((g.length : Int) != (l.length : Int)) then some false else K ((l, (a, (b, (1 : Int)))), g) := fun _ => rfl
  refine (E (K3_0 1000)).trans ?_
  by_cases c1 : (l.length : Int) > 200
  · rw [decide_eq_true c1, cond_true]
  · rw [decide_eq_false c1, cond_false]
    by_cases c2 : a > b
    · rw [decide_eq_true c2, cond_true]
    · obtain ⟨g, e, hg, hs, h6, hle⟩ := noted_eq l (by omega) (fun x hx => wf64 (h1 x hx))
      rw [decide_eq_false c2, cond_false, e]
      simp only [Option.bind_some]
      rw [hg, bne_self_eq_false, cond_false]
      exact k3g_loop l g (by omega) hg hs h6 hle a b (wf64 ha) (wf64 hb) (by omega) (l.length - 1) 1 1000 (by omega) (by omega) (by omega) (by omega)

/- GhostSame -/
theorem k4gK (n : Nat) (v) : K4_0 (n + 1) v = B4_0_5 (K4_0 n) v := rfl
theorem gap_same {g : List Int} (hl : g.length ≤ 200) (hs : Sorted g) (h6 : All64 g) {i : Nat} {x : Int} (hx : g[i]? = some x) : ∃ k : Nat, k ≤ i ∧ F14_0 (g, ((i : Int), x)) = some (((i : Int) - (k : Int)) * 4294967296, true) ∧ (i = 0 → k = 0) ∧ (∀ y, 0 < i → g[i - 1]? = some y → x > y → k = i) := by
  have hi := glt hx
  obtain ⟨k, e, h1, h2, h3⟩ := when_eq g (by omega) hs h6 x (h6 _ (List.mem_of_getElem? hx))
  have hki : k ≤ i := by
    rcases Nat.lt_or_ge i k with h | h
    · rcases h2 with h0 | ⟨y, hy, hyx⟩
      · omega
      · have := hs i (k - 1) x y (by omega) hx hy; omega
    · exact h
  have hw : whenS g x k = ((k : Int) * 4294967296, true) := by
    unfold whenS
    rw [if_neg (by omega)]
    by_cases c2 : k = 0
    · rw [if_pos c2, c2]; rfl
    · rw [if_neg c2]
      obtain ⟨y, hy, hya⟩ : ∃ y, g[k]? = some y ∧ x ≤ y := by rcases h3 with h3 | h3; omega; exact h3
      have ey : g.getD k 0 = y := by rw [List.getD_eq_getElem?_getD, hy]; rfl
      have := hs k i y x hki hy hx
      rw [ey, if_pos (by omega)]
  refine ⟨k, hki, ?_, fun h => by omega, fun y h0 hy hxy => ?_⟩
  · have p32 : (2 : Int) ^ 32 = 4294967296 := by decide
    unfold F14_0
    simp only []
    rw [e, hw]
    simp only [Option.bind_some, Bool.not_true, cond_false, decide_eq_false (show ¬ (i : Int) < 0 by omega), decide_eq_false (show ¬ (i : Int) > 16777216 by omega), p32]
    rw [gw64 (x := (i : Int) * 4294967296) (by omega), gw64 (by omega), Int.sub_mul]
  · rcases Nat.lt_or_ge k i with h | h
    · obtain ⟨z, hz, hza⟩ : ∃ z, g[k]? = some z ∧ x ≤ z := by rcases h3 with h3 | h3; omega; exact h3
      have := hs k (i - 1) z y (by omega) hz hy
      omega
    · omega
theorem k4g_loop (g : List Int) (hl : g.length ≤ 200) (hs : Sorted g) (h6 : All64 g) : ∀ (d i n : Nat), i + d = g.length → d < n → K4_0 n ((i : Int), g) = some true := by
  intro d
  induction d with
  | zero =>
    intro i n h hn
    obtain ⟨n, rfl⟩ : ∃ m, n = m + 1 := ⟨n - 1, by omega⟩
    rw [k4gK]
    unfold B4_0_5
    simp only [show decide ((i : Int) < (g.length : Int)) = false from decide_eq_false (by omega), cond_false, awake42, Option.bind_some]
  | succ d ih =>
    intro i n h hn
    obtain ⟨n, rfl⟩ : ∃ m, n = m + 1 := ⟨n - 1, by omega⟩
    obtain ⟨x, hx⟩ := gget (l := g) (i := i) (by omega)
    obtain ⟨k, k1, k2, k3, k4⟩ := gap_same hl hs h6 hx
    have e5 : IntKind.wrap .i64 ((i : Int) + 1) = ((i + 1 : Nat) : Int) := gwN (by omega) (by omega)
    have hih := ih (i + 1) n (by omega) (by omega)
    rw [k4gK]
    unfold B4_0_5
    simp only [show decide ((i : Int) < (g.length : Int)) = true from decide_eq_true (by omega), cond_true, e5, gidx (show i < g.length by omega), hx, Option.bind_some, k2, Bool.not_true, cond_false, decide_eq_false (show ¬ ((i : Int) - (k : Int)) * 4294967296 < 0 by omega)]
    by_cases c0 : i = 0
    · rw [show ((i : Int) == 0) = true by simp [c0], cond_true, show (((i : Int) - (k : Int)) * 4294967296 != 0) = false by rw [k3 c0, c0]; rfl, cond_false]
      exact hih
    · obtain ⟨y, hy⟩ := gget (l := g) (i := i - 1) (by omega)
      have e6 : IntKind.wrap .i64 ((i : Int) - 1) = ((i - 1 : Nat) : Int) := gwN (by omega) (by omega)
      rw [show ((i : Int) == 0) = false by simp [c0], cond_false, e6, gidx (show i - 1 < g.length by omega)]
      simp only [Option.bind_some, hy]
      by_cases c1 : x > y
      · rw [decide_eq_true c1, cond_true, show (((i : Int) - (k : Int)) * 4294967296 != 0) = false by rw [k4 y (by omega) hy c1, Int.sub_self]; rfl, cond_false]
        exact hih
      · rw [decide_eq_false c1, cond_false]
        exact hih
theorem law4_0 (v : A4_0) (h : Dom4_0 v) : F4_0 v = some true := by
  obtain ⟨_, h1⟩ := h
  have E : ∀ K, E4_0 K v = bif decide ((v.length : Int) > 200) then some true else (F11_0 v).bind fun g => K ((0 : Int), g) := fun _ => rfl
  refine (E (K4_0 1000)).trans ?_
  by_cases c1 : (v.length : Int) > 200
  · rw [decide_eq_true c1, cond_true]
  · obtain ⟨g, e, hg, hs, h6, hle⟩ := noted_eq v (by omega) (fun x hx => wf64 (h1 x hx))
    rw [decide_eq_false c1, cond_false, e]
    simp only [Option.bind_some]
    exact k4g_loop g (by omega) hs h6 g.length 0 1000 (by omega) (by omega)
end Go.Proofs.Ytfhhpfhmplgndaa.Ev
