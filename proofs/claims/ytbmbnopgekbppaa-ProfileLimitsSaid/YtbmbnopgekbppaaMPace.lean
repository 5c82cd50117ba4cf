/- Speeds round a loop, twice on and twice back: plain numbers, no program. -/
import Derived.Test.YtbmbnopgekbppaaMRoot
set_option linter.unusedVariables false
set_option linter.unusedSimpArgs false
namespace Go.Proofs.Ytbmbnopgekbppaa.Ev
open Go

theorem rt_ex (n : Nat) : ∃ r : Nat, r * r ≤ n ∧ n < (r + 1) * (r + 1) := by
  induction n with
  | zero => exact ⟨0, by decide, by decide⟩
  | succ n ih =>
    obtain ⟨r, h1, h2⟩ := ih
    by_cases h : (r + 1) * (r + 1) ≤ n + 1
    · refine ⟨r + 1, h, ?_⟩
      have : (r + 1 + 1) * (r + 1 + 1) = (r + 1) * (r + 1) + (2 * r + 3) := by
        rw [Nat.add_mul (r + 1) 1 (r + 1 + 1), Nat.mul_add (r + 1) (r + 1) 1]; omega
      omega
    · exact ⟨r, by omega, by omega⟩
noncomputable def rt (n : Int) : Int := ((Classical.choose (rt_ex n.toNat) : Nat) : Int)
theorem rt_ok {n : Int} (h : 0 ≤ n) : IsRt n (rt n) := by
  have e := Classical.choose_spec (rt_ex n.toNat)
  unfold rt
  generalize Classical.choose (rt_ex n.toNat) = r at e
  refine ⟨by omega, ?_, ?_⟩
  · have := e.1
    have c : ((r * r : Nat) : Int) ≤ (n.toNat : Int) := Int.ofNat_le.2 this
    rw [Int.natCast_mul, Int.toNat_of_nonneg h] at c
    exact c
  · have := e.2
    have c : (n.toNat : Int) < (((r + 1) * (r + 1) : Nat) : Int) := Int.ofNat_lt.2 this
    rw [Int.natCast_mul, Int.toNat_of_nonneg h] at c
    exact c
/-- How fast one may be, from a speed, with so much more of its square. -/
noncomputable def go (y c : Int) : Int := rt ((mulR y y + c) * 4294967296)
theorem mr_b (y : Int) : 2 * (mulR y y * 4294967296) ≤ 2 * (y * y) + 4294967296 ∧ 2 * (y * y) ≤ 2 * (mulR y y * 4294967296) + 4294967296 := by
  unfold mulR rhe
  generalize y * y = q
  split <;> omega
theorem mr_mono {y y' : Int} (h0 : 0 ≤ y) (h : y ≤ y') : mulR y y ≤ mulR y' y' := by
  have := sq_le h0 h
  unfold mulR rhe
  generalize y * y = q at *
  generalize y' * y' = q' at *
  split <;> split <;> omega
theorem mr_nn {y : Int} (h0 : 0 ≤ y) : 0 ≤ mulR y y := by
  have := sq_le (a := 0) (Int.le_refl 0) h0
  unfold mulR rhe
  generalize y * y = q at *
  split <;> omega
theorem go_ok {y c : Int} (h : 0 ≤ y) (hc : 0 ≤ c) : IsRt ((mulR y y + c) * 4294967296) (go y c) := rt_ok (by have := mr_nn h; omega)
theorem rt_mono {a b n m : Int} (ha : IsRt n a) (hb : IsRt m b) (h : n ≤ m) : a ≤ b := by
  by_cases g : b < a
  · have h1 := sq_le (a := b + 1) (b := a) (by have := hb.1; omega) (by omega)
    have h2 := ha.2.1
    have h3 := hb.2.2
    omega
  · omega
theorem go_mono {y y' c c' : Int} (h0 : 0 ≤ y) (h : y ≤ y') (hc : 0 ≤ c) (hc' : c ≤ c') : go y c ≤ go y' c' :=
  rt_mono (go_ok h0 hc) (go_ok (by omega) (by omega)) (by have := mr_mono h0 h; omega)
theorem go_nn {y c : Int} (h0 : 0 ≤ y) (hc : 0 ≤ c) : 0 ≤ go y c := (go_ok h0 hc).1
theorem bsq (b : Int) : (b + 1) * (b + 1) = b * b + 2 * b + 1 := by
  rw [Int.add_mul, Int.mul_add]; omega
theorem ssq (y s : Int) : (y - s) * (y - s) = y * y - 2 * (y * s) + s * s := by
  rw [Int.sub_mul, Int.mul_sub, Int.mul_sub, Int.mul_comm s y]; omega
/-- One turn with no way: how far it falls. -/
theorem go0_low {y : Int} (h0 : 0 ≤ y) : y - 65536 ≤ go y 0 := by
  by_cases hy : y < 65536
  · have := go_nn h0 (Int.le_refl 0); omega
  have e := go_ok h0 (Int.le_refl 0)
  have m := mr_b y
  rw [Int.add_zero] at e
  generalize mulR y y = q at *
  generalize go y 0 = g at *
  by_cases hh : g < y - 65536
  · have h1 := sq_le (a := g + 1) (b := y - 65536) (by have := e.1; omega) (by omega)
    rw [ssq] at h1
    have := e.2.2
    generalize (g + 1) * (g + 1) = G at *
    generalize y * y = Y at *
    omega
  · omega
theorem go0_big {y : Int} (h0 : 536870912 ≤ y) : y - 4 ≤ go y 0 := by
  have e := go_ok (y := y) (by omega) (Int.le_refl 0)
  have m := mr_b y
  rw [Int.add_zero] at e
  generalize mulR y y = q at *
  generalize go y 0 = g at *
  by_cases hh : g < y - 4
  · have h1 := sq_le (a := g + 1) (b := y - 4) (by have := e.1; omega) (by omega)
    rw [ssq] at h1
    have := e.2.2
    generalize (g + 1) * (g + 1) = G at *
    generalize y * y = Y at *
    omega
  · omega
theorem go0_small {y : Int} (h0 : 0 ≤ y) (h1 : y < 536870912) : go (go y 0) 0 = go y 0 := by
  have e := go_ok h0 (Int.le_refl 0)
  have m := mr_b y
  have hs := sq_le (a := y) (b := 536870911) h0 (by omega)
  rw [Int.add_zero] at e
  have e2 := go_ok e.1 (Int.le_refl 0)
  rw [Int.add_zero] at e2
  have hg : go y 0 < 1073741823 := by
    by_cases hh : go y 0 < 1073741823
    · exact hh
    · have := sq_le (a := 1073741823) (b := go y 0) (by omega) (by omega)
      have := e.2.1
      generalize go y 0 * go y 0 = G at *
      generalize y * y = Y at *
      omega
  have hq : mulR (go y 0) (go y 0) = mulR y y := by
    have a1 := e.2.1
    have a2 := e.2.2
    rw [bsq] at a2
    unfold mulR rhe at *
    generalize go y 0 = g at *
    generalize g * g = G at *
    generalize y * y = Y at *
    generalize (if 2 * (Y % 4294967296) > 4294967296 ∨ 2 * (Y % 4294967296) = 4294967296 ∧ Y / 4294967296 % 2 = 1 then Y / 4294967296 + 1 else Y / 4294967296) = q at *
    split <;> omega
  rw [hq] at e2
  exact rt_uniq e2 e
/-- From a speed that is but little lower one gets but little lower. -/
theorem go_near {x y c : Int} (hx : 0 ≤ x) (hy : 0 ≤ y) (hc : 0 ≤ c) (h : x ≤ y + 100000) : go x c ≤ go y c + 262144 := by
  have ea := go_ok hx hc
  have eb := go_ok hy hc
  have mx := mr_b x
  have my := mr_b y
  generalize go x c = A at *
  generalize go y c = B at *
  by_cases hh : A ≤ B + 262144
  · exact hh
  have hB := eb.1
  have s1 := sq_le (a := B + 1 + 262144) (b := A) (by omega) (by omega)
  have s2 : (B + 1 + 262144) * (B + 1 + 262144) = (B + 1) * (B + 1) + 524288 * (B + 1) + 262144 * 262144 := by
    generalize B + 1 = C
    rw [Int.add_mul, Int.mul_add, Int.mul_add]; omega
  have s3 := sq_le hx h
  have s4 : (y + 100000) * (y + 100000) = y * y + 200000 * y + 100000 * 100000 := by
    rw [Int.add_mul, Int.mul_add, Int.mul_add]; omega
  have a1 := ea.2.1
  have b1 := eb.2.2
  by_cases hs : y < 65536
  · generalize (B + 1) * (B + 1) = BB at *
    generalize A * A = AA at *
    generalize x * x = X at *
    generalize y * y = Y at *
    generalize mulR x x = qx at *
    generalize mulR y y = qy at *
    omega
  · have hb : y ≤ 2 * (B + 1) := by
      by_cases g : y ≤ 2 * (B + 1)
      · exact g
      · have t1 := sq_le (a := B + 1 + (B + 1)) (b := y) (by omega) (by omega)
        have t2 : (B + 1 + (B + 1)) * (B + 1 + (B + 1)) = 4 * ((B + 1) * (B + 1)) := by
          generalize B + 1 = C
          rw [Int.add_mul, Int.mul_add]; omega
        have t3 := sq_le (a := 65536) (b := y) (by omega) (by omega)
        have : 0 ≤ mulR y y := mr_nn hy
        generalize (B + 1) * (B + 1) = BB at *
        generalize y * y = Y at *
        generalize mulR y y = qy at *
        omega
    generalize (B + 1) * (B + 1) = BB at *
    generalize A * A = AA at *
    generalize x * x = X at *
    generalize y * y = Y at *
    generalize mulR x x = qx at *
    generalize mulR y y = qy at *
    omega
/-- What any number of turns with no way leaves. -/
def Low (x : Int) (j : Nat) (y : Int) : Prop := ∃ z, 0 ≤ z ∧ z ≤ y ∧ (x - 4 * j ≤ z ∨ (go z 0 = z ∧ x - 65536 - 4 * j ≤ z))
theorem low_le {x y : Int} {j : Nat} (h : Low x j y) : x - 65536 - 4 * j ≤ y := by
  obtain ⟨z, h0, h1, h2 | h2⟩ := h <;> omega
theorem low_step {x y c : Int} {j : Nat} (hc : 0 ≤ c) (h : Low x j y) : Low x (j + 1) (go y c) := by
  obtain ⟨z, h0, h1, h2⟩ := h
  refine ⟨go z 0, go_nn h0 (Int.le_refl 0), go_mono h0 h1 (Int.le_refl 0) hc, ?_⟩
  rcases h2 with h2 | h2
  · by_cases hz : z < 536870912
    · have a := go0_low h0
      exact .inr ⟨go0_small h0 hz, by omega⟩
    · have a := go0_big (y := z) (by omega)
      exact .inl (by omega)
  · rw [h2.1]; exact .inr ⟨h2.1, by omega⟩
def mn (a b : Int) : Int := if b < a then b else a
theorem mn_l (a b : Int) : mn a b ≤ a := by unfold mn; split <;> omega
theorem mn_r (a b : Int) : mn a b ≤ b := by unfold mn; split <;> omega
theorem mn_or (a b : Int) : mn a b = a ∨ mn a b = b := by unfold mn; split <;> simp
/-- A row of turns: twice round n places. -/
structure Turns (n : Nat) (u c h : Nat → Int) : Prop where
  n0 : 0 < n
  z : h 0 = u 0
  lo : ∀ t, t + 1 < n → h (t + 1) = mn (u (t + 1)) (go (h t) (c t))
  hi : ∀ t, t < n → h (n + t) = mn (h t) (go (h (n + t - 1)) (c (n + t - 1)))
  tw : h (n + n) = mn (h n) (go (h (n + n - 1)) (c (n + n - 1)))
  u0 : ∀ t, t < n → 0 ≤ u t
  c0 : ∀ t, 0 ≤ c t
  cn : ∀ t, t < n → c (n + t) = c t
theorem Turns.nn {n u c h} (T : Turns n u c h) : ∀ t, t ≤ n + n → 0 ≤ h t := by
  intro t
  induction t using Nat.strongRecOn with
  | ind t ih =>
    intro ht
    have n0 := T.n0
    by_cases h1 : t = 0
    · subst h1; rw [T.z]; exact T.u0 0 n0
    by_cases h2 : t < n
    · have e := T.lo (t - 1) (by omega)
      rw [show t - 1 + 1 = t by omega] at e
      have a := T.u0 t h2
      have b := go_nn (ih (t - 1) (by omega) (by omega)) (T.c0 (t - 1))
      rcases mn_or (u t) (go (h (t - 1)) (c (t - 1))) with g | g <;> rw [e, g] <;> assumption
    by_cases h3 : t < n + n
    · have e := T.hi (t - n) (by omega)
      rw [show n + (t - n) = t by omega] at e
      have a := ih (t - n) (by omega) (by omega)
      have b := go_nn (ih (t - 1) (by omega) (by omega)) (T.c0 (t - 1))
      rcases mn_or (h (t - n)) (go (h (t - 1)) (c (t - 1))) with g | g <;> rw [e, g] <;> assumption
    · obtain rfl : t = n + n := by omega
      have e := T.tw
      have a := ih n (by omega) (by omega)
      have b := go_nn (ih (n + n - 1) (by omega) (by omega)) (T.c0 (n + n - 1))
      rcases mn_or (h n) (go (h (n + n - 1)) (c (n + n - 1))) with g | g <;> rw [e, g] <;> assumption
/-- Each turn: what is there is reached. -/
theorem Turns.edge {n u c h} (T : Turns n u c h) (t : Nat) (ht : t < n + n) : h (t + 1) ≤ go (h t) (c t) := by
  have n0 := T.n0
  by_cases h2 : t + 1 < n
  · rw [T.lo t h2]; exact mn_r _ _
  by_cases h3 : t + 1 < n + n
  · have e := T.hi (t + 1 - n) (by omega)
    rw [show n + (t + 1 - n) = t + 1 by omega] at e
    rw [e]; exact mn_r _ _
  · have e := T.tw
    rw [show n + n = t + 1 by omega] at e
    rw [e]; exact mn_r _ _
theorem Turns.again {n u c h} (T : Turns n u c h) (j : Nat) (hj : j ≤ n) : h (n + j) ≤ h j := by
  have n0 := T.n0
  by_cases h3 : j < n
  · have e := T.hi j h3
    rw [e]; exact mn_l _ _
  · obtain rfl : j = n := by omega
    rw [T.tw]; exact mn_l _ _
theorem Turns.step {n u c h} (T : Turns n u c h) (j : Nat) (hj : j < n) : h (n + (j + 1)) = h (j + 1) ∨ h (n + (j + 1)) = go (h (n + j)) (c j) := by
  by_cases h3 : j + 1 < n
  · have e := T.hi (j + 1) h3
    rw [show n + (j + 1) - 1 = n + j by omega, T.cn j hj] at e
    rw [e]; exact mn_or _ _
  · have h4 : n = j + 1 := by omega
    have e := T.tw
    rw [show n + n - 1 = n + j by omega, T.cn j hj] at e
    have : h (n + (j + 1)) = h (n + n) := by rw [← h4]
    rw [this, e, h4]; exact mn_or _ _
/-- Round once more: nothing falls by more than a little. -/
theorem Turns.round {n u c h} (T : Turns n u c h) (hn : n ≤ 200) : h n - 66336 ≤ h (n + n) := by
  have n0 := T.n0
  have P : ∀ j, j ≤ n → h (n + j) = h j ∨ Low (h n) j (h (n + j)) := by
    intro j
    induction j with
    | zero => intro _; exact .inr ⟨h n, T.nn n (by omega), Int.le_refl _, .inl (by omega)⟩
    | succ j ih =>
      intro hj
      rcases T.step j (by omega) with s | s
      · exact .inl s
      rcases ih (by omega) with e | e
      · have a := T.edge j (by omega)
        have b := T.again (j + 1) hj
        rw [e] at s
        exact .inl (by omega)
      · right; rw [s]; exact low_step (T.c0 j) e
  rcases P n (Nat.le_refl _) with e | e
  · omega
  · have := low_le e; omega
/-- After both rounds: from place k to the next one. V k: k = 1 .. n, the last one being the first place. -/
theorem Turns.fin {n u c h} (T : Turns n u c h) (hn : n ≤ 200) (k : Nat) (h1 : 1 ≤ k) (hk : k < n) : h (n + k + 1) ≤ go (h (n + k)) (c k) := by
  have := T.edge (n + k) (by omega)
  rwa [T.cn k hk] at this
theorem Turns.fin0 {n u c h} (T : Turns n u c h) (hn : n ≤ 200) : h (n + 1) ≤ go (h (n + n)) (c 0) + 262144 := by
  have n0 := T.n0
  have a := T.edge n (by omega)
  have b := T.round hn
  have c0 := T.cn 0 n0
  rw [Nat.add_zero] at c0
  rw [c0] at a
  have := go_near (T.nn n (by omega)) (T.nn (n + n) (by omega)) (T.c0 0) (show h n ≤ h (n + n) + 100000 by omega)
  omega
/-- Twice on, then twice back: where it goes back, on is kept too. -/
theorem both {n : Nat} {u c h c' g : Nat → Int} (hn : n ≤ 200) (T : Turns n u c h) (S : Turns n (fun k => h (n + n - k)) c' g) (i : Nat) (hi : i < n) :
    g (n + (n - (i + 1) % n)) ≤ go (g (n + (n - i))) (c i) + 262144 ∧ g (n + (n - i)) ≤ go (g (n + (n - (i + 1) % n))) (c' (n - 1 - i)) + 262144 := by
  have n0 := T.n0
  -- x: the speed at the place behind, before the last turn
  obtain ⟨k, hk⟩ : ∃ k, k = n - i := ⟨_, rfl⟩
  have k1 : 1 ≤ k ∧ k ≤ n := by omega
  have nx : g (n + (n - (i + 1) % n)) ≤ g (n + k - 1) ∧ (k = 1 → g (n + (n - (i + 1) % n)) = g (n + n)) ∧ (1 < k → g (n + (n - (i + 1) % n)) = g (n + k - 1)) := by
    by_cases e : i + 1 = n
    · rw [e, Nat.mod_self, Nat.sub_zero]
      have : k = 1 := by omega
      subst this
      have := S.again n (Nat.le_refl _)
      exact ⟨by simpa using this, fun _ => rfl, fun h => by omega⟩
    · rw [Nat.mod_eq_of_lt (by omega)]
      have e2 : n + (n - (i + 1)) = n + k - 1 := by omega
      rw [e2]
      exact ⟨Int.le_refl _, fun h => by omega, fun _ => rfl⟩
  rw [← hk]
  have hX0 : 0 ≤ g (n + k - 1) := S.nn _ (by omega)
  have hW0 : 0 ≤ g (n + k) := S.nn _ (by omega)
  constructor
  · have st := S.step (k - 1) (by omega)
    rw [show k - 1 + 1 = k by omega, show n + (k - 1) = n + k - 1 by omega] at st
    have ag := S.again (k - 1) (by omega)
    rw [show n + (k - 1) = n + k - 1 by omega] at ag
    have hg0 : 0 ≤ g (k - 1) := S.nn _ (by omega)
    -- either a turn brought it, or it is as it was
    have two : g (n + k) = h (n + n - k % n) ∨ go (g (n + k - 1)) 0 ≤ g (n + k) := by
      rcases st with s | s
      · by_cases kn : k < n
        · have l := S.lo (k - 1) (by omega)
          rw [show k - 1 + 1 = k by omega] at l
          rcases mn_or (h (n + n - k)) (go (g (k - 1)) (c' (k - 1))) with m | m
          · left; rw [Nat.mod_eq_of_lt kn, s, l]; exact m
          · right; rw [s, l]; show _ ≤ mn (h (n + n - k)) (go (g (k - 1)) (c' (k - 1))); rw [m]
            exact go_mono hX0 ag (Int.le_refl 0) (S.c0 _)
        · have kn' : k = n := by omega
          have l := S.hi 0 n0
          rw [Nat.add_zero] at l
          rcases mn_or (g 0) (go (g (n - 1)) (c' (n - 1))) with m | m
          · left
            have z := S.z
            rw [s, kn', l, m, z, Nat.mod_self]
          · right
            rw [s, kn', l, m]
            rw [kn'] at ag hX0
            exact go_mono hX0 ag (Int.le_refl 0) (S.c0 _)
      · right; rw [s]; exact go_mono hX0 (Int.le_refl _) (Int.le_refl 0) (S.c0 _)
    rcases two with e | e
    · -- as it was
      have up : g (k - 1) ≤ h (n + n - (k - 1)) := by
        by_cases k0 : k = 1
        · subst k0; have z := S.z; rw [Nat.sub_self, z]; exact Int.le_refl _
        · have l := S.lo (k - 2) (by omega)
          rw [show k - 2 + 1 = k - 1 by omega] at l
          rw [l]; exact mn_l _ _
      by_cases kn : k < n
      · rw [Nat.mod_eq_of_lt kn] at e
        have f := T.fin hn (n - k) (by omega) (by omega)
        rw [show n + (n - k) + 1 = n + n - (k - 1) by omega, show n + (n - k) = n + n - k by omega, ← e, show n - k = i by omega] at f
        omega
      · have kn' : k = n := by omega
        have e' : g (n + k) = h (n + n) := by rw [e, kn', Nat.mod_self, Nat.sub_zero]
        have f := T.fin0 hn
        rw [show n + n - (k - 1) = n + 1 by omega] at up
        rw [show i = 0 by omega] at nx ⊢
        rw [e']
        have := nx.1
        omega
    · have a := go0_low hX0
      have l0 : Low (g (n + k - 1)) 0 (g (n + k - 1)) := ⟨_, hX0, Int.le_refl _, .inl (by omega)⟩
      have l2 := low_step (c := 0) (Int.le_refl 0) (low_step (c := 0) (Int.le_refl 0) l0)
      have l3 := low_le l2
      have m := go_mono (go_nn hX0 (Int.le_refl 0)) e (Int.le_refl 0) (T.c0 i)
      have := nx.1
      omega
  · by_cases k2 : k = 1
    · have e := nx.2.1 k2
      rw [e]
      have f := S.fin0 hn
      rw [show n - 1 - i = 0 by omega, k2]
      exact f
    · have e := nx.2.2 (by omega)
      rw [e]
      have f := S.fin hn (k - 1) (by omega) (by omega)
      rw [show n + (k - 1) + 1 = n + k by omega, show n + (k - 1) = n + k - 1 by omega, show k - 1 = n - 1 - i by omega] at f
      omega
end Go.Proofs.Ytbmbnopgekbppaa.Ev
