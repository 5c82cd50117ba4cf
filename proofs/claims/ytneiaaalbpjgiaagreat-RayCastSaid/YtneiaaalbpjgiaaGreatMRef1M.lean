/- Products and parts by parts of 32 bits: what the document's answer reckons. -/
import Derived.Test.YtneiaaalbpjgiaaGreatMRef1
set_option linter.unusedVariables false
set_option linter.unusedSimpArgs false
namespace Go.Proofs.YtneiaaalbpjgiaaGreat.Ev
open Go

theorem size1_eq {a : Int} (ha : I64 a) : F78_0 a = some (sz1 a) := by
  unfold I64 at ha
  unfold F78_0 sz1
  simp only [IntKind.wrap_u64, IntKind.wrap_i64]
  by_cases h : a < 0
  · rw [decide_eq_true h, cond_true, if_pos h]; exact some_eq (by omega)
  · rw [decide_eq_false h, cond_false, if_neg h]; exact some_eq (by omega)
/-- So many words of 32 bits up. -/
def up32 (at_ : Nat) (c : Int) : Int := match at_ with | 0 => c | 1 => c * 4294967296 | 2 => c * 18446744073709551616 | _ => c * 79228162514264337593543950336
theorem mulK1 (n : Nat) (v) : (K99_0 (n + 1)).1 v = B99_0_7 (K99_0 n) v := rfl
theorem mulK2 (n : Nat) (v) : (K99_0 (n + 1)).2.1 v = B99_0_10 (K99_0 n) v := rfl
theorem mulK3 (n : Nat) (v) : (K99_0 (n + 1)).2.2 v = B99_0_15 (K99_0 n) v := rfl
theorem low1_eq {n : Int} (h : 0 ≤ n) : F107_0 n = some (n % 4294967296) := low_eq h
/-- The carry goes up until it is gone. -/
theorem carry_loop (l m : Int × Int) (z : Nn) (neg : Bool) (i k : Int) (hk : 0 ≤ k ∧ k ≤ 3) : ∀ (d at_ n : Nat) (p : Dg) (c : Int), at_ + d = 4 → DOk p → 0 ≤ c → c ≤ 18446744073709551615 → U128 (dv p + up32 at_ c) → (at_ = 4 → c = 0) →
    ∃ n', n ≤ n' ∧ (K99_0 (n + d + 1)).2.2 ((i, (k, (c, (at_ : Int)))), ((neg, p), (m, (l, z)))) = (K99_0 n').2.1 ((i, k + 1), ((neg, dg (dv p + up32 at_ c)), (m, (l, z)))) := by
  intro d
  have ek : IntKind.wrap .i64 (k + 1) = k + 1 := wrap_i64 ⟨by omega, by omega⟩
  induction d with
  | zero =>
    intro at_ n p c h hp h0 h1 hu h4
    have : at_ = 4 := by omega
    subst this
    obtain rfl := h4 rfl
    refine ⟨n, Nat.le_refl _, ?_⟩
    rw [Nat.add_zero, mulK3]
    unfold B99_0_15
    rw [show decide (((4 : Nat) : Int) < 4) = false from rfl, cond_false, ek, show dv p + up32 4 0 = dv p by unfold up32; simp, dg_dv hp]
  | succ d ih =>
    intro at_ n p c h hp h0 h1 hu h4
    rw [show n + (d + 1) + 1 = (n + d + 1) + 1 from rfl, mulK3]
    unfold B99_0_15
    simp only [show decide (((at_ : Nat) : Int) < 4) = true from decide_eq_true (by omega), cond_true]
    by_cases hc : c > 0
    · rw [decide_eq_true hc, cond_true]
      have step : ∀ (x : Nat) (pn : Dg), idx (at_ : Int) 4 = some x → (List.getD [p.1, p.2.1, p.2.2.1, p.2.2.2] x 0) ≤ 4294967295 → 0 ≤ (List.getD [p.1, p.2.1, p.2.2.1, p.2.2.2] x 0) →
          pn = (if x = 0 then (List.getD [p.1, p.2.1, p.2.2.1, p.2.2.2] x 0 + c % 4294967296) % 4294967296 else p.1, (if x = 1 then (List.getD [p.1, p.2.1, p.2.2.1, p.2.2.2] x 0 + c % 4294967296) % 4294967296 else p.2.1, (if x = 2 then (List.getD [p.1, p.2.1, p.2.2.1, p.2.2.2] x 0 + c % 4294967296) % 4294967296 else p.2.2.1, if x = 3 then (List.getD [p.1, p.2.1, p.2.2.1, p.2.2.2] x 0 + c % 4294967296) % 4294967296 else p.2.2.2))) →
          DOk pn → dv pn + up32 (at_ + 1) (c / 4294967296 + (List.getD [p.1, p.2.1, p.2.2.1, p.2.2.2] x 0 + c % 4294967296) / 4294967296) = dv p + up32 at_ c → (at_ + 1 = 4 → c / 4294967296 + (List.getD [p.1, p.2.1, p.2.2.1, p.2.2.2] x 0 + c % 4294967296) / 4294967296 = 0) →
          ∃ n', n ≤ n' ∧ ((idx (at_ : Int) 4).bind fun (x733 : Nat) => (F107_0 c).bind fun r734 =>
            (F107_0 (IntKind.wrap .u64 (List.getD [p.1, p.2.1, p.2.2.1, p.2.2.2] x733 0 + r734))).bind fun r736 => (idx (at_ : Int) 4).bind fun (x737 : Nat) =>
              (K99_0 (n + d + 1)).2.2 ((i, (k, (IntKind.wrap .u64 (IntKind.wrap .u64 (Int.tdiv c 4294967296) + IntKind.wrap .u64 (Int.tdiv (IntKind.wrap .u64 (List.getD [p.1, p.2.1, p.2.2.1, p.2.2.2] x733 0 + r734)) 4294967296)), IntKind.wrap .i64 ((at_ : Int) + 1)))),
                ((neg, (if x737 = 0 then r736 else p.1, (if x737 = 1 then r736 else p.2.1, (if x737 = 2 then r736 else p.2.2.1, if x737 = 3 then r736 else p.2.2.2)))), (m, (l, z))))) =
            (K99_0 n').2.1 ((i, k + 1), ((neg, dg (dv p + up32 at_ c)), (m, (l, z)))) := by
        intro x pn hx g1 g2 hpn hok hdv hz
        have ea : IntKind.wrap .i64 ((at_ : Int) + 1) = ((at_ + 1 : Nat) : Int) := by rw [wrap_i64 ⟨by omega, by omega⟩]; omega
        generalize hg : List.getD [p.1, p.2.1, p.2.2.1, p.2.2.2] x 0 = g at *
        have e1 : IntKind.wrap .u64 (g + c % 4294967296) = g + c % 4294967296 := wrap_u64 ⟨by omega, by omega⟩
        have e2 : IntKind.wrap .u64 (Int.tdiv c 4294967296) = c / 4294967296 := by rw [tdiv_nn h0]; exact wrap_u64 ⟨by omega, by omega⟩
        have e3 : IntKind.wrap .u64 (Int.tdiv (g + c % 4294967296) 4294967296) = (g + c % 4294967296) / 4294967296 := by rw [tdiv_nn (by omega)]; exact wrap_u64 ⟨by omega, by omega⟩
        have e4 : IntKind.wrap .u64 (c / 4294967296 + (g + c % 4294967296) / 4294967296) = c / 4294967296 + (g + c % 4294967296) / 4294967296 := wrap_u64 ⟨by omega, by omega⟩
        simp only [hx, Option.bind_some, low1_eq h0, hg, e1, e2, e3, e4, ea, low1_eq (show 0 ≤ g + c % 4294967296 by omega)]
        rw [← hpn, ← hdv]
        exact ih (at_ + 1) n pn _ (by omega) hok (by omega) (by omega) (by rw [hdv]; exact hu) hz
      obtain ⟨p0, p1, p2, p3⟩ := p
      have hp' := hp
      unfold DOk D32 at hp'
      simp only [] at hp'
      have hat : (at_ = 0) ∨ (at_ = 1) ∨ (at_ = 2) ∨ (at_ = 3) := by omega
      unfold dv at hu
      rcases hat with rfl | rfl | rfl | rfl
      · refine step 0 _ rfl (by simp; omega) (by simp; omega) rfl ?_ ?_ (by omega)
        · simp (decide := true) only [List.getD_cons_zero, if_true, if_false]; unfold DOk D32; simp only []; omega
        · simp (decide := true) only [List.getD_cons_zero, if_true, if_false]; unfold dv up32; simp only [] at *; omega
      · refine step 1 _ rfl (by simp; omega) (by simp; omega) rfl ?_ ?_ (by omega)
        · simp (decide := true) only [List.getD_cons_succ, List.getD_cons_zero, if_true, if_false]; unfold DOk D32; simp only []; omega
        · simp (decide := true) only [List.getD_cons_succ, List.getD_cons_zero, if_true, if_false]; unfold dv up32; simp only [] at *; omega
      · refine step 2 _ rfl (by simp; omega) (by simp; omega) rfl ?_ ?_ (by omega)
        · simp (decide := true) only [List.getD_cons_succ, List.getD_cons_zero, if_true, if_false]; unfold DOk D32; simp only []; omega
        · simp (decide := true) only [List.getD_cons_succ, List.getD_cons_zero, if_true, if_false]; unfold dv up32; simp only [] at *; omega
      · refine step 3 _ rfl (by simp; omega) (by simp; omega) rfl ?_ ?_ ?_
        · simp (decide := true) only [List.getD_cons_succ, List.getD_cons_zero, if_true, if_false]; unfold DOk D32; simp only []; omega
        · simp (decide := true) only [List.getD_cons_succ, List.getD_cons_zero, if_true, if_false]; unfold U128 at hu; unfold dv up32 at *; simp only [] at *; omega
        · simp (decide := true) only [List.getD_cons_succ, List.getD_cons_zero]; unfold U128 up32 at hu; simp only [] at hu; intro _; omega
    · rw [decide_eq_false hc, cond_false, ek]
      have hc0 : c = 0 := by omega
      subst hc0
      refine ⟨n + d + 1, by omega, ?_⟩
      rw [show dv p + up32 at_ 0 = dv p by unfold up32; split <;> simp, dg_dv hp]
/-- One product of parts more. -/
theorem mul_row (x0 x1 y0 y1 : Int) (z : Nn) (neg : Bool) (i k : Nat) (hi : i ≤ 1) (hk : k ≤ 1) (n : Nat) (V w : Int) (hw : w = (if i = 0 then x0 else x1) * (if k = 0 then y0 else y1)) (hx0 : D32 x0) (hx1 : D32 x1) (hy0 : D32 y0) (hy1 : D32 y1) (hV : U128 V) (hu : U128 (V + up32 (i + k) w)) :
    ∃ n', n ≤ n' ∧ (K99_0 (n + 6)).2.1 (((i : Int), (k : Int)), ((neg, dg V), ((y0, y1), ((x0, x1), z)))) = (K99_0 n').2.1 (((i : Int), ((k + 1 : Nat) : Int)), ((neg, dg (V + up32 (i + k) w)), ((y0, y1), ((x0, x1), z)))) := by
  have hwb : 0 ≤ w ∧ w ≤ 18446744065119617025 := by
    unfold D32 at hx0 hx1 hy0 hy1
    rw [hw]
    have := prod_le (a := if i = 0 then x0 else x1) (b := if k = 0 then y0 else y1) (A := 4294967295) (B := 4294967295) (by split <;> omega) (by split <;> omega) (by split <;> omega) (by split <;> omega)
    omega
  rw [show n + 6 = (n + 5) + 1 from rfl, mulK2]
  unfold B99_0_10
  have ii : idx (i : Int) 2 = some i := by unfold idx; rw [decide_eq_true (by omega)]; rfl
  have ik : idx (k : Int) 2 = some k := by unfold idx; rw [decide_eq_true (by omega)]; rfl
  have gi : List.getD [x0, x1] i 0 = if i = 0 then x0 else x1 := by rcases (show i = 0 ∨ i = 1 by omega) with rfl | rfl <;> rfl
  have gk : List.getD [y0, y1] k 0 = if k = 0 then y0 else y1 := by rcases (show k = 0 ∨ k = 1 by omega) with rfl | rfl <;> rfl
  simp only [show decide ((k : Int) < 2) = true from decide_eq_true (by omega), cond_true, ii, ik, Option.bind_some, gi, gk, ← hw]
  rw [wrap_u64 (n := w) ⟨by omega, by omega⟩, wrap_i64 (n := (i : Int) + (k : Int)) ⟨by omega, by omega⟩, show ((i : Int) + (k : Int)) = ((i + k : Nat) : Int) by omega]
  obtain ⟨n', h1, h2⟩ := carry_loop (x0, x1) (y0, y1) z neg i k ⟨by omega, by omega⟩ (4 - (i + k)) (i + k) (n + 5 - (4 - (i + k)) - 1) (dg V) w (by omega) (dg_ok V) hwb.1 (by omega) (by rw [dv_dg hV]; exact hu) (by omega)
  rw [show n + 5 - (4 - (i + k)) - 1 + (4 - (i + k)) + 1 = n + 5 by omega] at h2
  have g : n ≤ n' := by clear hu hV hw hx0 hx1 hy0 hy1 hwb h2 ii ik gi gk; omega
  refine ⟨n', g, ?_⟩
  refine h2.trans ?_
  rw [dv_dg hV, Int.natCast_add]
  rfl
theorem mul1_E {a b : Int} (ha : I64 a) (hb : I64 b) (KK) : E99_0 KK (a, b) = KK.1 (0, (((!(decide (a < 0) == decide (b < 0))), (0, (0, (0, 0)))), ((sz1 b % 4294967296, sz1 b / 4294967296), ((sz1 a % 4294967296, sz1 a / 4294967296), (false, (0, (0, (0, 0)))))))) := by
  have ca := sz1_cases a
  have cb := sz1_cases b
  unfold E99_0
  have ha' := ha; have hb' := hb
  unfold I64 at ha' hb'
  have hx : 0 ≤ sz1 a ∧ sz1 a ≤ 9223372036854775808 := by omega
  have hy : 0 ≤ sz1 b ∧ sz1 b ≤ 9223372036854775808 := by omega
  simp only [size1_eq ha, size1_eq hb, Option.bind_some, low_eq hx.1, low_eq hy.1, tdiv_nn hx.1, tdiv_nn hy.1]
  rw [wrap_u64 (n := sz1 a / 4294967296) ⟨by omega, by omega⟩, wrap_u64 (n := sz1 b / 4294967296) ⟨by omega, by omega⟩]
theorem mul1_eq {a b : Int} (ha : I64 a) (hb : I64 b) : F99_0 (a, b) = some (nd (a * b)) := by
  have hP := prod_i64 ha hb
  have ca := sz1_cases a
  have cb := sz1_cases b
  have cp := sz1_cases (a * b)
  have hab : sz1 a * sz1 b = sz1 (a * b) := by
    have e1 : sz1 a = (a.natAbs : Int) := by omega
    have e2 : sz1 b = (b.natAbs : Int) := by omega
    have e3 : sz1 (a * b) = ((a * b).natAbs : Int) := by omega
    rw [e1, e2, e3, Int.natAbs_mul]; simp
  refine (mul1_E ha hb _).trans ?_
  have ha' := ha; have hb' := hb
  unfold I64 at ha' hb'
  have hx : 0 ≤ sz1 a ∧ sz1 a ≤ 9223372036854775808 := by omega
  have hy : 0 ≤ sz1 b ∧ sz1 b ≤ 9223372036854775808 := by omega
  have hneg : ∀ q : Bool, q = (!(decide (a < 0) == decide (b < 0))) → (if sz1 (a * b) = 0 then false else q) = decide (a * b < 0) := by
    intro q hq
    rw [hq]
    by_cases h0 : sz1 (a * b) = 0
    · rw [if_pos h0, decide_eq_false (by omega)]
    · rw [if_neg h0]
      rcases Int.lt_trichotomy a 0 with h1 | h1 | h1 <;> rcases Int.lt_trichotomy b 0 with h2 | h2 | h2
      · have := Int.mul_pos_of_neg_of_neg h1 h2
        rw [decide_eq_true h1, decide_eq_true h2, decide_eq_false (by omega)]; rfl
      · subst h2; simp only [Int.mul_zero] at h0; exact absurd rfl h0
      · have := Int.mul_neg_of_neg_of_pos h1 h2
        rw [decide_eq_true h1, decide_eq_false (by omega), decide_eq_true this]; rfl
      · subst h1; simp only [Int.zero_mul] at h0; exact absurd rfl h0
      · subst h1; simp only [Int.zero_mul] at h0; exact absurd rfl h0
      · subst h1; simp only [Int.zero_mul] at h0; exact absurd rfl h0
      · have := Int.mul_neg_of_pos_of_neg h1 h2
        rw [decide_eq_false (by omega), decide_eq_true h2, decide_eq_true this]; rfl
      · subst h2; simp only [Int.mul_zero] at h0; exact absurd rfl h0
      · have := Int.mul_pos h1 h2
        rw [decide_eq_false (by omega), decide_eq_false (by omega), decide_eq_false (by omega)]; rfl
  have hneg := hneg _ rfl
  generalize (!(decide (a < 0) == decide (b < 0))) = neg at *
  have hu0 : U128 (sz1 (a * b)) := by unfold U128; omega
  have hz0 : ((0 : Int), ((0 : Int), ((0 : Int), (0 : Int)))) = dg 0 := rfl
  have hprod : sz1 (a * b) = sz1 a / 4294967296 * (sz1 b / 4294967296) * 18446744073709551616 + (sz1 a / 4294967296 * (sz1 b % 4294967296) + sz1 a % 4294967296 * (sz1 b / 4294967296)) * 4294967296 + sz1 a % 4294967296 * (sz1 b % 4294967296) := by
    rw [← hab]
    conv => lhs; rw [show sz1 a = sz1 a / 4294967296 * 4294967296 + sz1 a % 4294967296 by omega, show sz1 b = sz1 b / 4294967296 * 4294967296 + sz1 b % 4294967296 by omega]
    exact split_mul _ _ _ _
  have dx0 : D32 (sz1 a % 4294967296) := ⟨by omega, by omega⟩
  have dx1 : D32 (sz1 a / 4294967296) := ⟨by omega, by omega⟩
  have dy0 : D32 (sz1 b % 4294967296) := ⟨by omega, by omega⟩
  have dy1 : D32 (sz1 b / 4294967296) := ⟨by omega, by omega⟩
  generalize sz1 a / 4294967296 = x1 at *
  generalize sz1 a % 4294967296 = x0 at *
  generalize sz1 b / 4294967296 = y1 at *
  generalize sz1 b % 4294967296 = y0 at *
  have pA := prod_le dx1.1 dx1.2 dy1.1 dy1.2
  have pB := prod_le dx1.1 dx1.2 dy0.1 dy0.2
  have pD := prod_le dx0.1 dx0.2 dy1.1 dy1.2
  have pC := prod_le dx0.1 dx0.2 dy0.1 dy0.2
  obtain ⟨A, hA⟩ : ∃ A, A = x1 * y1 := ⟨_, rfl⟩
  obtain ⟨B, hB⟩ : ∃ B, B = x1 * y0 := ⟨_, rfl⟩
  obtain ⟨D, hD⟩ : ∃ D, D = x0 * y1 := ⟨_, rfl⟩
  obtain ⟨C, hC⟩ : ∃ C, C = x0 * y0 := ⟨_, rfl⟩
  rw [← hA, ← hB, ← hD, ← hC] at hprod
  rw [← hA] at pA; rw [← hB] at pB; rw [← hD] at pD; rw [← hC] at pC
  refine (mulK1 999 _).trans ?_
  rw [hz0]
  unfold B99_0_7
  rw [show decide ((0 : Int) < 2) = true from rfl, cond_true]
  unfold U128 at hu0
  have z0 : U128 0 := ⟨by decide, by decide⟩
  obtain ⟨n1, g1, s1⟩ := mul_row x0 x1 y0 y1 (false, dg 0) neg 0 0 (by omega) (by omega) 993 0 C (by rw [hC]; rfl) dx0 dx1 dy0 dy1 z0 (by unfold U128 up32; simp only []; omega)
  have s1 : (K99_0 999).2.1 ((0, 0), ((neg, dg 0), ((y0, y1), ((x0, x1), (false, dg 0))))) = (K99_0 n1).2.1 ((0, 1), ((neg, dg C), ((y0, y1), ((x0, x1), (false, dg 0))))) := by
    have e : (0 : Int) + up32 (0 + 0) C = C := by show (0 : Int) + C = C; omega
    rw [e] at s1; exact s1
  rw [s1]
  obtain ⟨n2, g2, s2⟩ := mul_row x0 x1 y0 y1 (false, dg 0) neg 0 1 (by omega) (by omega) (n1 - 6) C D (by rw [hD]; rfl) dx0 dx1 dy0 dy1 ⟨by omega, by omega⟩ (by unfold U128; show 0 ≤ C + D * 4294967296 ∧ C + D * 4294967296 ≤ _; omega)
  rw [show n1 - 6 + 6 = n1 by omega] at s2
  rw [show (K99_0 n1).2.1 ((0, 1), ((neg, dg C), ((y0, y1), ((x0, x1), (false, dg 0))))) = _ from s2]
  rw [show n2 = (n2 - 2) + 1 + 1 by omega, mulK2]
  unfold B99_0_10
  rw [show decide (((1 + 1 : Nat) : Int) < 2) = false from rfl, cond_false]
  rw [show IntKind.wrap .i64 (((0 : Nat) : Int) + 1) = ((1 : Nat) : Int) from rfl, mulK1]
  unfold B99_0_7
  rw [show decide (((1 : Nat) : Int) < 2) = true from rfl, cond_true]
  have e12 : C + up32 (0 + 1) D = C + D * 4294967296 := rfl
  rw [e12]
  obtain ⟨n3, g3, s3⟩ := mul_row x0 x1 y0 y1 (false, dg 0) neg 1 0 (by omega) (by omega) (n2 - 8) (C + D * 4294967296) B (by rw [hB]; rfl) dx0 dx1 dy0 dy1 ⟨by omega, by omega⟩ (by unfold U128; show 0 ≤ C + D * 4294967296 + B * 4294967296 ∧ C + D * 4294967296 + B * 4294967296 ≤ _; omega)
  rw [show n2 - 8 + 6 = n2 - 2 by omega] at s3
  rw [show (K99_0 (n2 - 2)).2.1 ((((1 : Nat) : Int), (0 : Int)), ((neg, dg (C + D * 4294967296)), ((y0, y1), ((x0, x1), (false, dg 0))))) = _ from s3]
  have e13 : C + D * 4294967296 + up32 (1 + 0) B = C + D * 4294967296 + B * 4294967296 := rfl
  rw [e13]
  obtain ⟨n4, g4, s4⟩ := mul_row x0 x1 y0 y1 (false, dg 0) neg 1 1 (by omega) (by omega) (n3 - 6) (C + D * 4294967296 + B * 4294967296) A (by rw [hA]; rfl) dx0 dx1 dy0 dy1 ⟨by omega, by omega⟩ (by unfold U128; show 0 ≤ C + D * 4294967296 + B * 4294967296 + A * 18446744073709551616 ∧ C + D * 4294967296 + B * 4294967296 + A * 18446744073709551616 ≤ _; omega)
  rw [show n3 - 6 + 6 = n3 by omega] at s4
  rw [show (K99_0 n3).2.1 ((((1 : Nat) : Int), ((0 + 1 : Nat) : Int)), ((neg, dg (C + D * 4294967296 + B * 4294967296)), ((y0, y1), ((x0, x1), (false, dg 0))))) = _ from s4]
  have e14 : C + D * 4294967296 + B * 4294967296 + up32 (1 + 1) A = sz1 (a * b) := by show C + D * 4294967296 + B * 4294967296 + A * 18446744073709551616 = _; omega
  rw [e14, show n4 = (n4 - 2) + 1 + 1 by omega, mulK2]
  unfold B99_0_10
  rw [show decide (((1 + 1 : Nat) : Int) < 2) = false from rfl, cond_false]
  rw [show IntKind.wrap .i64 (((1 : Nat) : Int) + 1) = ((2 : Nat) : Int) from rfl, mulK1]
  unfold B99_0_7
  rw [show decide (((2 : Nat) : Int) < 2) = false from rfl, cond_false]
  simp only [zero1_eq neg (show U128 (sz1 (a * b)) from hu0), Option.bind_some, nd_eq]
  by_cases h0 : sz1 (a * b) = 0
  · rw [if_pos h0] at hneg
    rw [decide_eq_true h0, cond_true, hneg]
  · rw [if_neg h0] at hneg
    rw [decide_eq_false h0, cond_false, hneg]
def partR (a b : Int) : Int := if a < 0 ∨ b ≤ a then 0 else a * 4294967296 / b
end Go.Proofs.YtneiaaalbpjgiaaGreat.Ev
