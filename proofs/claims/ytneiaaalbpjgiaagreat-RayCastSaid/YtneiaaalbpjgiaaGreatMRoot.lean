/- Roots: the program's and the document's. -/
import Derived.Test.YtneiaaalbpjgiaaGreatMSign
import Derived.Test.YtneiaaalbpjgiaaGreatMRef1M
set_option linter.unusedVariables false
set_option linter.unusedSimpArgs false
namespace Go.Proofs.YtneiaaalbpjgiaaGreat.Ev
open Go

def IsRt (n r : Int) : Prop := 0 ≤ r ∧ r * r ≤ n ∧ n < (r + 1) * (r + 1)
theorem sq_le {a b : Int} (h0 : 0 ≤ a) (h : a ≤ b) : a * a ≤ b * b := Int.mul_le_mul h h h0 (by omega)
theorem rt_le {n a b : Int} (ha : IsRt n a) (hb : IsRt n b) : a ≤ b := by
  by_cases h : b < a
  · have h1 := sq_le (a := b + 1) (b := a) (by have := hb.1; omega) (by omega)
    have h2 := ha.2.1
    have h3 := hb.2.2
    omega
  · omega
theorem rt_uniq {n a b : Int} (ha : IsRt n a) (hb : IsRt n b) : a = b := Int.le_antisymm (rt_le ha hb) (rt_le hb ha)
theorem w113K (n : Nat) (v) : K97_0 (n + 1) v = B97_0_5 (K97_0 n) v := rfl
theorem wroot_loop {m : Int} (m0 : 1 ≤ m) (m1 : m ≤ 170141183460469231731687303715884105727) : ∀ (k n : Nat) (lo hi : Int), k < n → hi - lo < 2 ^ k → 1 ≤ lo → lo ≤ hi → hi ≤ 13835058055282163712 → lo * lo ≤ m → m < (hi + 1) * (hi + 1) →
    ∃ r, K97_0 n ((lo, hi), wd m) = some r ∧ IsRt m r ∧ U64 r := by
  intro k
  induction k with
  | zero =>
    intro n lo hi hn hd l0 l1 h1 hl hh
    obtain ⟨n, rfl⟩ : ∃ m, n = m + 1 := ⟨n - 1, by omega⟩
    have hd' : hi - lo < 1 := hd
    have e : lo = hi := by omega
    refine ⟨lo, ?_, ⟨by omega, hl, by rw [e]; exact hh⟩, ⟨by omega, by omega⟩⟩
    rw [w113K]
    unfold B97_0_5
    simp only [show decide (lo < hi) = false from decide_eq_false (by omega), cond_false]
  | succ k ih =>
    intro n lo hi hn hd l0 l1 h1 hl hh
    obtain ⟨n, rfl⟩ : ∃ m, n = m + 1 := ⟨n - 1, by omega⟩
    have hp : (2 : Int) ^ (k + 1) = 2 ^ k * 2 := Int.pow_succ _ _
    rw [hp] at hd
    generalize (2 : Int) ^ k = P at hd ih
    clear hp
    rw [w113K]
    unfold B97_0_5
    by_cases hlt : lo < hi
    · have a1 : IntKind.wrap .u64 (hi - lo) = hi - lo := wrap_u64 ⟨by omega, by omega⟩
      have a2 : IntKind.wrap .u64 (hi - lo + 1) = hi - lo + 1 := wrap_u64 ⟨by omega, by omega⟩
      have a3 : Int.tdiv (hi - lo + 1) 2 = (hi - lo + 1) / 2 := Int.tdiv_eq_ediv_of_nonneg (by omega)
      have a4 : IntKind.wrap .u64 ((hi - lo + 1) / 2) = (hi - lo + 1) / 2 := wrap_u64 ⟨by omega, by omega⟩
      have a5 : IntKind.wrap .u64 (lo + (hi - lo + 1) / 2) = lo + (hi - lo + 1) / 2 := wrap_u64 ⟨by omega, by omega⟩
      have a6 : IntKind.wrap .u64 (lo + (hi - lo + 1) / 2 - 1) = lo + (hi - lo + 1) / 2 - 1 := wrap_u64 ⟨by omega, by omega⟩
      simp only [show decide (lo < hi) = true from decide_eq_true hlt, cond_true, a1, a2, a3, a4, a5, a6]
      generalize hM : lo + (hi - lo + 1) / 2 = M
      have b1 : lo < M ∧ M ≤ hi := by omega
      have b2 : M - 1 - lo < P ∧ hi - M < P := by omega
      have hMu : U64 M := ⟨by omega, by omega⟩
      have hsq : 0 ≤ M * M := Int.mul_nonneg (by omega) (by omega)
      have hsq2 : M * M ≤ 13835058055282163712 * 13835058055282163712 := sq_le (by omega) (by omega)
      have c1 : U64 (M * M / 18446744073709551616) ∧ U64 (M * M % 18446744073709551616) := by
        generalize M * M = Q at hsq hsq2
        unfold U64
        omega
      have c2 : wv (M * M / 18446744073709551616, M * M % 18446744073709551616) = M * M := by
        unfold wv; simp only []; omega
      have c3 : U64 (wd m).1 ∧ U64 (wd m).2 := by unfold U64 wd; simp only []; omega
      rw [mul64_eq hMu hMu]
      simp only [Option.bind_some]
      rw [belowz_eq c3 c1, wv_wd, c2]
      simp only [Option.bind_some]
      by_cases hb : m < M * M
      · rw [decide_eq_true hb, cond_true]
        exact ih n lo (M - 1) (by omega) b2.1 l0 (by omega) (by omega) hl (by rw [Int.sub_add_cancel]; exact hb)
      · rw [decide_eq_false hb, cond_false]
        exact ih n M hi (by omega) b2.2 (by omega) (by omega) h1 (by omega) hh
    · have e : lo = hi := by omega
      refine ⟨lo, ?_, ⟨by omega, hl, by rw [e]; exact hh⟩, ⟨by omega, by omega⟩⟩
      simp only [show decide (lo < hi) = false from decide_eq_false hlt, cond_false]
theorem wroot_eq {m : Int} (m0 : 0 ≤ m) (m1 : m ≤ 170141183460469231731687303715884105727) : ∃ r, F97_0 (wd m) = some r ∧ IsRt m r ∧ U64 r := by
  have E : ∀ K, E97_0 K (wd m) = bif decide ((wd m).1 < 0) then some 0 else bif (((wd m).1 == 0) && (((wd m).2 == 0) && true)) then some 0 else K ((1, 13835058055282163712), (IntKind.wrap .u64 (wd m).1, (wd m).2)) := fun _ => rfl
  have hF : F97_0 (wd m) = E97_0 (K97_0 1000) (wd m) := rfl
  rw [hF, E]
  have h1 : ¬ (wd m).1 < 0 := by unfold wd; simp only []; omega
  have h2 : IntKind.wrap .u64 (wd m).1 = (wd m).1 := wrap_u64 (by unfold wd U64; simp only []; omega)
  rw [decide_eq_false h1, cond_false, h2]
  by_cases hz : m = 0
  · subst hz
    exact ⟨0, rfl, ⟨by decide, by decide, by decide⟩, ⟨by decide, by decide⟩⟩
  · have h3 : (((wd m).1 == 0) && (((wd m).2 == 0) && true)) = false := by
      unfold wd
      simp only [Bool.and_true, Bool.and_eq_false_iff, beq_eq_false_iff_ne]
      omega
    rw [h3, cond_false]
    exact wroot_loop (by omega) m1 64 1000 1 13835058055282163712 (by decide) (by decide) (by decide) (by decide) (by decide) (by omega) (by omega)
theorem sqK1 (n : Nat) (v) : (K109_0 (n + 1)).1 v = B109_0_4 (K109_0 n) v := rfl
theorem sqK2 (n : Nat) (v) : (K109_0 (n + 1)).2.1 v = B109_0_7 (K109_0 n) v := rfl
theorem sqK3 (n : Nat) (v) : (K109_0 (n + 1)).2.2 v = B109_0_11 (K109_0 n) v := rfl
theorem sq_carry (l : Int × Int) (z : Dg) (i k : Int) (hk : 0 ≤ k ∧ k ≤ 3) : ∀ (d at_ n : Nat) (p : Dg) (c : Int), at_ + d = 4 → DOk p → 0 ≤ c → c ≤ 18446744073709551615 → U128 (dv p + up32 at_ c) → (at_ = 4 → c = 0) →
    ∃ n', n ≤ n' ∧ (K109_0 (n + d + 1)).2.2 ((i, (k, (c, (at_ : Int)))), (p, (l, z))) = (K109_0 n').2.1 ((i, k + 1), (dg (dv p + up32 at_ c), (l, z))) := by
  intro d
  have ek : IntKind.wrap .i64 (k + 1) = k + 1 := wrap_i64 ⟨by omega, by omega⟩
  induction d with
  | zero =>
    intro at_ n p c h hp h0 h1 hu h4
    have : at_ = 4 := by omega
    subst this
    obtain rfl := h4 rfl
    refine ⟨n, Nat.le_refl _, ?_⟩
    rw [Nat.add_zero, sqK3]
    unfold B109_0_11
    rw [show decide (((4 : Nat) : Int) < 4) = false from rfl, cond_false, ek, show dv p + up32 4 0 = dv p by unfold up32; simp, dg_dv hp]
  | succ d ih =>
    intro at_ n p c h hp h0 h1 hu h4
    rw [show n + (d + 1) + 1 = (n + d + 1) + 1 from rfl, sqK3]
    unfold B109_0_11
    simp only [show decide (((at_ : Nat) : Int) < 4) = true from decide_eq_true (by omega), cond_true]
    by_cases hc : c > 0
    · rw [decide_eq_true hc, cond_true]
      have step : ∀ (x : Nat) (pn : Dg), idx (at_ : Int) 4 = some x → (List.getD [p.1, p.2.1, p.2.2.1, p.2.2.2] x 0) ≤ 4294967295 → 0 ≤ (List.getD [p.1, p.2.1, p.2.2.1, p.2.2.2] x 0) →
          pn = (if x = 0 then (List.getD [p.1, p.2.1, p.2.2.1, p.2.2.2] x 0 + c % 4294967296) % 4294967296 else p.1, (if x = 1 then (List.getD [p.1, p.2.1, p.2.2.1, p.2.2.2] x 0 + c % 4294967296) % 4294967296 else p.2.1, (if x = 2 then (List.getD [p.1, p.2.1, p.2.2.1, p.2.2.2] x 0 + c % 4294967296) % 4294967296 else p.2.2.1, if x = 3 then (List.getD [p.1, p.2.1, p.2.2.1, p.2.2.2] x 0 + c % 4294967296) % 4294967296 else p.2.2.2))) →
          DOk pn → dv pn + up32 (at_ + 1) (c / 4294967296 + (List.getD [p.1, p.2.1, p.2.2.1, p.2.2.2] x 0 + c % 4294967296) / 4294967296) = dv p + up32 at_ c → (at_ + 1 = 4 → c / 4294967296 + (List.getD [p.1, p.2.1, p.2.2.1, p.2.2.2] x 0 + c % 4294967296) / 4294967296 = 0) →
          ∃ n', n ≤ n' ∧ ((idx (at_ : Int) 4).bind fun (x733 : Nat) => (F107_0 c).bind fun r734 =>
            (F107_0 (IntKind.wrap .u64 (List.getD [p.1, p.2.1, p.2.2.1, p.2.2.2] x733 0 + r734))).bind fun r736 => (idx (at_ : Int) 4).bind fun (x737 : Nat) =>
              (K109_0 (n + d + 1)).2.2 ((i, (k, (IntKind.wrap .u64 (IntKind.wrap .u64 (Int.tdiv c 4294967296) + IntKind.wrap .u64 (Int.tdiv (IntKind.wrap .u64 (List.getD [p.1, p.2.1, p.2.2.1, p.2.2.2] x733 0 + r734)) 4294967296)), IntKind.wrap .i64 ((at_ : Int) + 1)))),
                ((if x737 = 0 then r736 else p.1, (if x737 = 1 then r736 else p.2.1, (if x737 = 2 then r736 else p.2.2.1, if x737 = 3 then r736 else p.2.2.2))), (l, z)))) =
            (K109_0 n').2.1 ((i, k + 1), (dg (dv p + up32 at_ c), (l, z))) := by
        intro x pn hx g1 g2 hpn hok hdv hz
        have ea : IntKind.wrap .i64 ((at_ : Int) + 1) = ((at_ + 1 : Nat) : Int) := by rw [wrap_i64 ⟨by omega, by omega⟩]; omega
        generalize hg : List.getD [p.1, p.2.1, p.2.2.1, p.2.2.2] x 0 = g at *
        have e1 : IntKind.wrap .u64 (g + c % 4294967296) = g + c % 4294967296 := wrap_u64 ⟨by omega, by omega⟩
        have e2 : IntKind.wrap .u64 (Int.tdiv c 4294967296) = c / 4294967296 := by rw [tdiv_nn h0]; exact wrap_u64 ⟨by omega, by omega⟩
        have e3 : IntKind.wrap .u64 (Int.tdiv (g + c % 4294967296) 4294967296) = (g + c % 4294967296) / 4294967296 := by rw [tdiv_nn (by omega)]; exact wrap_u64 ⟨by omega, by omega⟩
        have e4 : IntKind.wrap .u64 (c / 4294967296 + (g + c % 4294967296) / 4294967296) = c / 4294967296 + (g + c % 4294967296) / 4294967296 := wrap_u64 ⟨by omega, by omega⟩
        simp only [hx, Option.bind_some, low1_eq h0, hg, e1, e2, e3, e4, ea, low1_eq (show 0 ≤ g + c % 4294967296 by omega)]
        rw [← hpn, ← hdv]
        exact ih (at_ + 1) n pn _ (by omega) hok (by omega) (by omega) (by rw [hdv]; exact hu) hz
      obtain ⟨p0, p1, p2, p3⟩ := p
      have hp' := hp
      unfold DOk D32 at hp'
      simp only [] at hp'
      have hat : (at_ = 0) ∨ (at_ = 1) ∨ (at_ = 2) ∨ (at_ = 3) := by omega
      unfold dv at hu
      rcases hat with rfl | rfl | rfl | rfl
      · refine step 0 _ rfl (by simp; omega) (by simp; omega) rfl ?_ ?_ (by omega)
        · simp (decide := true) only [List.getD_cons_zero, if_true, if_false]; unfold DOk D32; simp only []; omega
        · simp (decide := true) only [List.getD_cons_zero, if_true, if_false]; unfold dv up32; simp only [] at *; omega
      · refine step 1 _ rfl (by simp; omega) (by simp; omega) rfl ?_ ?_ (by omega)
        · simp (decide := true) only [List.getD_cons_succ, List.getD_cons_zero, if_true, if_false]; unfold DOk D32; simp only []; omega
        · simp (decide := true) only [List.getD_cons_succ, List.getD_cons_zero, if_true, if_false]; unfold dv up32; simp only [] at *; omega
      · refine step 2 _ rfl (by simp; omega) (by simp; omega) rfl ?_ ?_ (by omega)
        · simp (decide := true) only [List.getD_cons_succ, List.getD_cons_zero, if_true, if_false]; unfold DOk D32; simp only []; omega
        · simp (decide := true) only [List.getD_cons_succ, List.getD_cons_zero, if_true, if_false]; unfold dv up32; simp only [] at *; omega
      · refine step 3 _ rfl (by simp; omega) (by simp; omega) rfl ?_ ?_ ?_
        · simp (decide := true) only [List.getD_cons_succ, List.getD_cons_zero, if_true, if_false]; unfold DOk D32; simp only []; omega
        · simp (decide := true) only [List.getD_cons_succ, List.getD_cons_zero, if_true, if_false]; unfold U128 at hu; unfold dv up32 at *; simp only [] at *; omega
        · simp (decide := true) only [List.getD_cons_succ, List.getD_cons_zero]; unfold U128 up32 at hu; simp only [] at hu; intro _; omega
    · rw [decide_eq_false hc, cond_false, ek]
      have hc0 : c = 0 := by omega
      subst hc0
      refine ⟨n + d + 1, by omega, ?_⟩
      rw [show dv p + up32 at_ 0 = dv p by unfold up32; split <;> simp, dg_dv hp]
theorem sq_row (x0 x1 : Int) (z : Dg) (i k : Nat) (hi : i ≤ 1) (hk : k ≤ 1) (n : Nat) (V w : Int) (hw : w = (if i = 0 then x0 else x1) * (if k = 0 then x0 else x1)) (hx0 : D32 x0) (hx1 : D32 x1) (hV : U128 V) (hu : U128 (V + up32 (i + k) w)) :
    ∃ n', n ≤ n' ∧ (K109_0 (n + 6)).2.1 (((i : Int), (k : Int)), (dg V, ((x0, x1), z))) = (K109_0 n').2.1 (((i : Int), ((k + 1 : Nat) : Int)), (dg (V + up32 (i + k) w), ((x0, x1), z))) := by
  have hwb : 0 ≤ w ∧ w ≤ 18446744065119617025 := by
    unfold D32 at hx0 hx1
    rw [hw]
    have := prod_le (a := if i = 0 then x0 else x1) (b := if k = 0 then x0 else x1) (A := 4294967295) (B := 4294967295) (by split <;> omega) (by split <;> omega) (by split <;> omega) (by split <;> omega)
    omega
  rw [show n + 6 = (n + 5) + 1 from rfl, sqK2]
  unfold B109_0_7
  have ii : idx (i : Int) 2 = some i := by unfold idx; rw [decide_eq_true (by omega)]; rfl
  have ik : idx (k : Int) 2 = some k := by unfold idx; rw [decide_eq_true (by omega)]; rfl
  have gi : List.getD [x0, x1] i 0 = if i = 0 then x0 else x1 := by rcases (show i = 0 ∨ i = 1 by omega) with rfl | rfl <;> rfl
  have gk : List.getD [x0, x1] k 0 = if k = 0 then x0 else x1 := by rcases (show k = 0 ∨ k = 1 by omega) with rfl | rfl <;> rfl
  simp only [show decide ((k : Int) < 2) = true from decide_eq_true (by omega), cond_true, ii, ik, Option.bind_some, gi, gk, ← hw]
  rw [wrap_u64 (n := w) ⟨by omega, by omega⟩, wrap_i64 (n := (i : Int) + (k : Int)) ⟨by omega, by omega⟩, show ((i : Int) + (k : Int)) = ((i + k : Nat) : Int) by omega]
  obtain ⟨n', h1, h2⟩ := sq_carry (x0, x1) z i k ⟨by omega, by omega⟩ (4 - (i + k)) (i + k) (n + 5 - (4 - (i + k)) - 1) (dg V) w (by omega) (dg_ok V) hwb.1 (by omega) (by rw [dv_dg hV]; exact hu) (by omega)
  rw [show n + 5 - (4 - (i + k)) - 1 + (4 - (i + k)) + 1 = n + 5 by omega] at h2
  have g : n ≤ n' := by clear hu hV hw hx0 hx1 hwb h2 ii ik gi gk; omega
  refine ⟨n', g, ?_⟩
  refine h2.trans ?_
  rw [dv_dg hV, Int.natCast_add]
  rfl
theorem square_E (n : Int) (h : U64 n) (KK) : E109_0 KK n = KK.1 (0, ((0, (0, (0, 0))), ((n % 4294967296, n / 4294967296), (0, (0, (0, 0)))))) := by
  have h' := h
  unfold U64 at h'
  unfold E109_0
  simp only [low_eq h'.1, Option.bind_some, tdiv_nn h'.1]
  rw [wrap_u64 (n := n / 4294967296) ⟨by omega, by omega⟩]
theorem square_eq {n : Int} (h : U64 n) : F109_0 n = some (dg (n * n)) := by
  have h' := h
  unfold U64 at h'
  refine (square_E n h _).trans ?_
  have hu0 : 0 ≤ n * n ∧ n * n ≤ 340282366920938463426481119284349108225 := prod_u64 h h
  have hz0 : ((0 : Int), ((0 : Int), ((0 : Int), (0 : Int)))) = dg 0 := rfl
  have hprod : n * n = n / 4294967296 * (n / 4294967296) * 18446744073709551616 + (n / 4294967296 * (n % 4294967296) + n % 4294967296 * (n / 4294967296)) * 4294967296 + n % 4294967296 * (n % 4294967296) := by
    conv => lhs; rw [show n = n / 4294967296 * 4294967296 + n % 4294967296 by omega]
    exact split_mul _ _ _ _
  have dx0 : D32 (n % 4294967296) := ⟨by omega, by omega⟩
  have dx1 : D32 (n / 4294967296) := ⟨by omega, by omega⟩
  generalize n / 4294967296 = x1 at *
  generalize n % 4294967296 = x0 at *
  have pA := prod_le dx1.1 dx1.2 dx1.1 dx1.2
  have pB := prod_le dx1.1 dx1.2 dx0.1 dx0.2
  have pD := prod_le dx0.1 dx0.2 dx1.1 dx1.2
  have pC := prod_le dx0.1 dx0.2 dx0.1 dx0.2
  obtain ⟨A, hA⟩ : ∃ A, A = x1 * x1 := ⟨_, rfl⟩
  obtain ⟨B, hB⟩ : ∃ B, B = x1 * x0 := ⟨_, rfl⟩
  obtain ⟨D, hD⟩ : ∃ D, D = x0 * x1 := ⟨_, rfl⟩
  obtain ⟨C, hC⟩ : ∃ C, C = x0 * x0 := ⟨_, rfl⟩
  rw [← hA, ← hB, ← hD, ← hC] at hprod
  rw [← hA] at pA; rw [← hB] at pB; rw [← hD] at pD; rw [← hC] at pC
  refine (sqK1 999 _).trans ?_
  rw [hz0]
  unfold B109_0_4
  rw [show decide ((0 : Int) < 2) = true from rfl, cond_true]
  have z0 : U128 0 := ⟨by decide, by decide⟩
  obtain ⟨n1, g1, s1⟩ := sq_row x0 x1 (dg 0) 0 0 (by omega) (by omega) 993 0 C (by rw [hC]; rfl) dx0 dx1 z0 (by unfold U128 up32; simp only []; omega)
  have s1 : (K109_0 999).2.1 ((0, 0), (dg 0, ((x0, x1), dg 0))) = (K109_0 n1).2.1 ((0, 1), (dg C, ((x0, x1), dg 0))) := by
    have e : (0 : Int) + up32 (0 + 0) C = C := by show (0 : Int) + C = C; omega
    rw [e] at s1; exact s1
  rw [s1]
  obtain ⟨n2, g2, s2⟩ := sq_row x0 x1 (dg 0) 0 1 (by omega) (by omega) (n1 - 6) C D (by rw [hD]; rfl) dx0 dx1 ⟨by omega, by omega⟩ (by unfold U128; show 0 ≤ C + D * 4294967296 ∧ C + D * 4294967296 ≤ _; omega)
  rw [show n1 - 6 + 6 = n1 by omega] at s2
  rw [show (K109_0 n1).2.1 ((0, 1), (dg C, ((x0, x1), dg 0))) = _ from s2]
  rw [show n2 = (n2 - 2) + 1 + 1 by omega, sqK2]
  unfold B109_0_7
  rw [show decide (((1 + 1 : Nat) : Int) < 2) = false from rfl, cond_false]
  rw [show IntKind.wrap .i64 (((0 : Nat) : Int) + 1) = ((1 : Nat) : Int) from rfl, sqK1]
  unfold B109_0_4
  rw [show decide (((1 : Nat) : Int) < 2) = true from rfl, cond_true]
  have e12 : C + up32 (0 + 1) D = C + D * 4294967296 := rfl
  rw [e12]
  obtain ⟨n3, g3, s3⟩ := sq_row x0 x1 (dg 0) 1 0 (by omega) (by omega) (n2 - 8) (C + D * 4294967296) B (by rw [hB]; rfl) dx0 dx1 ⟨by omega, by omega⟩ (by unfold U128; show 0 ≤ C + D * 4294967296 + B * 4294967296 ∧ C + D * 4294967296 + B * 4294967296 ≤ _; omega)
  rw [show n2 - 8 + 6 = n2 - 2 by omega] at s3
  rw [show (K109_0 (n2 - 2)).2.1 ((((1 : Nat) : Int), (0 : Int)), (dg (C + D * 4294967296), ((x0, x1), dg 0))) = _ from s3]
  have e13 : C + D * 4294967296 + up32 (1 + 0) B = C + D * 4294967296 + B * 4294967296 := rfl
  rw [e13]
  obtain ⟨n4, g4, s4⟩ := sq_row x0 x1 (dg 0) 1 1 (by omega) (by omega) (n3 - 6) (C + D * 4294967296 + B * 4294967296) A (by rw [hA]; rfl) dx0 dx1 ⟨by omega, by omega⟩ (by unfold U128; show 0 ≤ C + D * 4294967296 + B * 4294967296 + A * 18446744073709551616 ∧ C + D * 4294967296 + B * 4294967296 + A * 18446744073709551616 ≤ _; omega)
  rw [show n3 - 6 + 6 = n3 by omega] at s4
  rw [show (K109_0 n3).2.1 ((((1 : Nat) : Int), ((0 + 1 : Nat) : Int)), (dg (C + D * 4294967296 + B * 4294967296), ((x0, x1), dg 0))) = _ from s4]
  have e14 : C + D * 4294967296 + B * 4294967296 + up32 (1 + 1) A = n * n := by show C + D * 4294967296 + B * 4294967296 + A * 18446744073709551616 = _; omega
  rw [e14, show n4 = (n4 - 2) + 1 + 1 by omega, sqK2]
  unfold B109_0_7
  rw [show decide (((1 + 1 : Nat) : Int) < 2) = false from rfl, cond_false]
  rw [show IntKind.wrap .i64 (((1 : Nat) : Int) + 1) = ((2 : Nat) : Int) from rfl, sqK1]
  unfold B109_0_4
  rw [show decide (((2 : Nat) : Int) < 2) = false from rfl, cond_false]
theorem rtK (n : Nat) (v) : K100_0 (n + 1) v = B100_0_5 (K100_0 n) v := rfl
theorem rroot_loop {m : Int} (m0 : 1 ≤ m) (m1 : m ≤ 170141183460469231731687303715884105727) (neg : Bool) : ∀ (k n : Nat) (r : Int), k ≤ 64 → k < n → 0 ≤ r → r + 2 ^ k ≤ 18446744073709551616 → r * r ≤ m → m < (r + 2 ^ k) * (r + 2 ^ k) →
    ∃ r', K100_0 n ((r, (k : Int) - 1), (neg, dg m)) = some r' ∧ IsRt m r' ∧ U64 r' := by
  intro k
  induction k with
  | zero =>
    intro n r hk hn r0 r1 h1 h2
    obtain ⟨n, rfl⟩ : ∃ m, n = m + 1 := ⟨n - 1, by omega⟩
    have e : (2 : Int) ^ 0 = 1 := rfl
    rw [e] at r1 h2
    refine ⟨r, ?_, ⟨r0, h1, h2⟩, ⟨r0, by omega⟩⟩
    rw [rtK]
    unfold B100_0_5
    simp only [show decide (((0 : Nat) : Int) - 1 ≥ 0) = false from rfl, cond_false]
  | succ k ih =>
    intro n r hk hn r0 r1 h1 h2
    obtain ⟨n, rfl⟩ : ∃ m, n = m + 1 := ⟨n - 1, by omega⟩
    have hp : (2 : Int) ^ (k + 1) = 2 ^ k * 2 := Int.pow_succ _ _
    have hpos : (0 : Int) < 2 ^ k := Int.pow_pos (by decide)
    have e1 : ((k + 1 : Nat) : Int) - 1 = (k : Int) := by omega
    have e2 : IntKind.wrap .u64 (k : Int) = (k : Int) := wrap_u64 ⟨by omega, by omega⟩
    have e3 : min ((k : Int).toNat) 64 = k := by omega
    rw [hp] at r1 h2
    have e4 : IntKind.wrap .u64 ((1 : Int) * 2 ^ k) = 2 ^ k := by rw [Int.one_mul]; exact wrap_u64 ⟨by omega, by omega⟩
    have e5 : IntKind.wrap .u64 (r + 2 ^ k) = r + 2 ^ k := wrap_u64 ⟨by omega, by omega⟩
    have e6 : IntKind.wrap .i64 ((k : Int) - 1) = (k : Int) - 1 := wrap_i64 ⟨by omega, by omega⟩
    have hU : U64 (r + 2 ^ k) := ⟨by omega, by omega⟩
    have hq := prod_u64 hU hU
    rw [rtK]
    unfold B100_0_5
    simp only [e1, show decide ((k : Int) ≥ 0) = true from decide_eq_true (by omega), cond_true, e2, show chk (decide (0 ≤ (k : Int))) = some () by rw [decide_eq_true (by omega)]; rfl, Option.bind_some, e3, e4, e5, e6, square_eq hU]
    rw [less1_eq ⟨by omega, by omega⟩ ⟨hq.1, by omega⟩]
    simp only [Option.bind_some]
    by_cases hb : m < (r + 2 ^ k) * (r + 2 ^ k)
    · rw [decide_eq_true hb, Bool.not_true, cond_false]
      exact ih n r (by omega) (by omega) r0 (by omega) h1 hb
    · rw [decide_eq_false hb, Bool.not_false, cond_true]
      exact ih n (r + 2 ^ k) (by omega) (by omega) (by omega) (by omega) (by omega) (by rw [show r + 2 ^ k + 2 ^ k = r + 2 ^ k * 2 by omega]; exact h2)
theorem rroot_eq {m : Int} (m0 : 0 ≤ m) (m1 : m ≤ 170141183460469231731687303715884105727) : ∃ r, F100_0 (nd m) = some r ∧ IsRt m r ∧ U64 r := by
  have E : ∀ K, E100_0 K (nd m) = (F108_0 (nd m)).bind fun r => bif decide (r ≤ 0) then some 0 else K ((0, 63), nd m) := fun _ => rfl
  have hF : F100_0 (nd m) = E100_0 (K100_0 1000) (nd m) := rfl
  rw [hF, E, sign1_eq (by unfold S127; omega)]
  simp only [Option.bind_some]
  by_cases hz : m = 0
  · subst hz
    exact ⟨0, rfl, ⟨by decide, by decide, by decide⟩, ⟨by decide, by decide⟩⟩
  · have hs : sgn3 m = 1 := by unfold sgn3; rw [if_neg hz, if_neg (by omega)]
    rw [hs, show decide ((1 : Int) ≤ 0) = false from rfl, cond_false]
    have hn : nd m = (decide (m < 0), dg m) := by unfold nd; rw [if_neg (by omega)]
    rw [hn]
    refine rroot_loop (by omega) m1 _ 64 1000 0 (by decide) (by decide) (by decide) (by decide) (by omega) ?_
    show m < (0 + 18446744073709551616) * (0 + 18446744073709551616)
    omega
theorem roots_same {m : Int} (m0 : 0 ≤ m) (m1 : m ≤ 170141183460469231731687303715884105727) : ∃ r, F97_0 (wd m) = some r ∧ F100_0 (nd m) = some r ∧ IsRt m r ∧ U64 r := by
  obtain ⟨r, h1, h2, h3⟩ := wroot_eq m0 m1
  obtain ⟨r', g1, g2, g3⟩ := rroot_eq m0 m1
  obtain rfl := rt_uniq h2 g2
  exact ⟨r, h1, g1, h2, h3⟩
end Go.Proofs.YtneiaaalbpjgiaaGreat.Ev
