/- The ground: how steep, how high, and which way is up. -/
import Derived.Test.YtneiaaalbpjgiaaGreatMField3
set_option linter.unusedVariables false
set_option linter.unusedSimpArgs false
namespace Go.Proofs.YtneiaaalbpjgiaaGreat.Ev
open Go

theorem rhe_near {n d : Int} (hd : 0 < d) : -d ≤ 2 * (rhe n d * d - n) ∧ 2 * (rhe n d * d - n) ≤ d := by
  have h1 := Int.mul_ediv_add_emod n d
  have h2 := Int.emod_nonneg n (show d ≠ 0 by omega)
  have h3 := Int.emod_lt_of_pos n hd
  rw [Int.mul_comm] at h1
  unfold rhe
  split
  · rw [Int.add_mul, Int.one_mul]; omega
  · omega
/-- A slope. -/
structure Slp (D C a : Int) : Prop where
  lo : -4294967296 ≤ a
  hi : a ≤ 4294967296
  nlo : -C ≤ 2 * (a * C - D * 4294967296)
  nhi : 2 * (a * C - D * 4294967296) ≤ C
theorem slp {D C : Int} (hC : 17179869184 ≤ C ∧ C ≤ 274877906944) (h : -C ≤ D ∧ D ≤ C) : Slp D C (divS D C) ∧ divO D C = false := by
  have e : divR D C = rhe (D * 4294967296) C := by unfold divR; rw [if_pos (by omega)]
  have a := rhe_le (n := D * 4294967296) (d := C) (M := 4294967296) (by omega) (by omega)
  have b := rhe_ge (n := D * 4294967296) (d := C) (M := -4294967296) (by omega) (by omega)
  have c := rhe_near (n := D * 4294967296) (d := C) (by omega)
  have e2 : divS D C = rhe (D * 4294967296) C := by unfold divS; rw [if_neg (by omega), e, sat_in ⟨by omega, by omega⟩]
  rw [e2]
  refine ⟨⟨b, a, c.1, c.2⟩, ?_⟩
  unfold divO
  rw [decide_eq_false (by omega), e, ovf_in ⟨by omega, by omega⟩]; rfl
theorem at_in {t : TR} (hC : CntP t) (hR : RngP t) {a b : Int} (h : InC t a b) (x y : List Int) : F67_0 ((a, b), ((t.2.1, (t.2.2.1, (t.2.2.2.1, (t.2.2.2.2.1, t.2.2.2.2.2.1)))), (x, y))) = some (((nOf t a b : Int), true), ((t.2.1, (t.2.2.1, (t.2.2.2.1, (t.2.2.2.2.1, t.2.2.2.2.2.1)))), (y, x))) := by
  obtain ⟨c, r, ec, er, hc, hr, hl, hg'⟩ := hC.nat
  obtain ⟨⟨a0, a1⟩, b0, b1⟩ := h
  unfold F67_0
  simp only []
  rw [decide_eq_false (show ¬ (if b < a then b else a) < 0 by split <;> omega), cond_false, decide_eq_false (by omega), cond_false, decide_eq_false (by omega), cond_false]
  have p := prod_le (a := b) (b := t.2.2.1 + 1) (A := 64) (B := 65) b0 (by omega) (by omega) (by omega)
  rw [f64 (show -9223372036854775808 ≤ t.2.2.1 + 1 ∧ t.2.2.1 + 1 ≤ 9223372036854775807 by omega), f64 (show -9223372036854775808 ≤ b * (t.2.2.1 + 1) ∧ b * (t.2.2.1 + 1) ≤ 9223372036854775807 by omega), f64 (by omega)]
  have : b * (t.2.2.1 + 1) + a = (nOf t a b : Int) := by
    unfold nOf
    rw [Int.natCast_add, Int.natCast_mul, Int.natCast_add, Int.toNat_of_nonneg b0, Int.toNat_of_nonneg a0, Int.toNat_of_nonneg (by omega)]; rfl
  rw [this]
theorem at_out {t : TR} {a b : Int} (h : ¬ InC t a b) (x y : List Int) : F67_0 ((a, b), ((t.2.1, (t.2.2.1, (t.2.2.2.1, (t.2.2.2.2.1, t.2.2.2.2.2.1)))), (x, y))) = some ((0, false), ((t.2.1, (t.2.2.1, (t.2.2.2.1, (t.2.2.2.2.1, t.2.2.2.2.2.1)))), (y, x))) := by
  unfold F67_0
  simp only []
  by_cases c1 : (if b < a then b else a) < 0
  · rw [decide_eq_true c1, cond_true]
  · rw [decide_eq_false c1, cond_false]
    by_cases c2 : a ≥ t.2.2.1
    · rw [decide_eq_true c2, cond_true]
    · rw [decide_eq_false c2, cond_false]
      by_cases c3 : b ≥ t.2.2.2.1
      · rw [decide_eq_true c3, cond_true]
      · exfalso; apply h; unfold InC; split at c1 <;> omega
def slS (t : TR) (a b : Int) (up : Bool) : Int × Int := 
  let n := nOf t a b; let c := t.2.2.1.toNat
  bif up then (divS (hg t (n + c + 2) - hg t (n + c + 1)) t.2.1, divS (hg t (n + c + 1) - hg t n) t.2.1)
  else (divS (hg t (n + 1) - hg t n) t.2.1, divS (hg t (n + c + 2) - hg t (n + 1)) t.2.1)
theorem cut_at {lo hi len : Int} {n m : Nat} (h : lo = (n : Int)) (h2 : hi = ((n + m : Nat) : Int)) (h3 : hi ≤ len) : cutn lo hi len = some (n, m) := by
  unfold cutn
  rw [decide_eq_true (by omega)]
  simp only []
  congr 2 <;> omega
theorem hg_ok {t : TR} (hR : RngP t) {k : Nat} (h : k < t.2.2.2.2.2.2.1.length) : -2199023255552 ≤ hg t k ∧ hg t k ≤ 2199023255552 := Hs.at hR.2.2.1 h
theorem i64_of {n : Int} (h : -9223372036854775808 ≤ n ∧ n ≤ 9223372036854775807) : I64 n := h
theorem slopes_p {t : TR} (hC : CntP t) (hR : RngP t) {a b : Int} (h : InC t a b) (up o : Bool) (gr : List Int) : F44_0 ((a, (b, up)), (o, ((t.2.1, (t.2.2.1, (t.2.2.2.1, (t.2.2.2.2.1, t.2.2.2.2.2.1)))), (gr, t.2.2.2.2.2.2.1)))) = some (slS t a b up, (o, ((t.2.1, (t.2.2.1, (t.2.2.2.1, (t.2.2.2.2.1, t.2.2.2.2.2.1)))), (t.2.2.2.2.2.2.1, gr)))) := by
  have K := cor_ok hC hR h
  obtain ⟨c, r, ec, er, hc, hr, hl, hg'⟩ := hC.nat
  have hcell := hR.1
  unfold F44_0
  simp only [at_in hC hR h, Option.bind_some, Bool.not_true, cond_false]
  unfold slS
  generalize nOf t a b = n at *
  have el : t.2.2.2.2.2.2.1.length ≤ 4225 := by rw [hl]; exact Nat.mul_le_mul (show c + 1 ≤ 65 by omega) (show r + 1 ≤ 65 by omega)
  obtain ⟨kl, k1, k2, k3, k4⟩ := K
  rw [ec] at kl k2 k3 k4 ⊢
  rw [Int.toNat_natCast] at kl k2 k3 k4 ⊢
  have b0 := hg_ok hR (k := n) (by omega)
  have b1 := hg_ok hR (k := n + 1) (by omega)
  have b2 := hg_ok hR (k := n + c + 1) (by omega)
  have b3 := hg_ok hR (k := n + c + 2) (by omega)
  have w1 : IntKind.wrap .i64 ((n : Int) + 2) = ((n + 2 : Nat) : Int) := by rw [f64 (by omega)]; omega
  have w2 : IntKind.wrap .i64 ((n : Int) + (c : Int)) = ((n + c : Nat) : Int) := by rw [f64 (by omega)]; omega
  have w3 : IntKind.wrap .i64 (((n + c : Nat) : Int) + 1) = ((n + c + 1 : Nat) : Int) := by rw [f64 (by omega)]; omega
  have w4 : IntKind.wrap .i64 (((n + c : Nat) : Int) + 3) = ((n + c + 1 + 2 : Nat) : Int) := by rw [f64 (by omega)]; omega
  simp only [w1, w2, w3, w4, cut_at (show (n : Int) = (n : Int) from rfl) (show ((n + 2 : Nat) : Int) = ((n + 2 : Nat) : Int) from rfl) (show ((n + 2 : Nat) : Int) ≤ (t.2.2.2.2.2.2.1.length : Int) by omega), cut_at (show ((n + c + 1 : Nat) : Int) = ((n + c + 1 : Nat) : Int) from rfl) (show ((n + c + 1 + 2 : Nat) : Int) = ((n + c + 1 + 2 : Nat) : Int) from rfl) (show ((n + c + 1 + 2 : Nat) : Int) ≤ (t.2.2.2.2.2.2.1.length : Int) by omega), Option.bind_some]
  have x0 : idx (0 : Int) 2 = some 0 := rfl
  have x1 : idx (1 : Int) 2 = some 1 := rfl
  have y0 : t.2.2.2.2.2.2.1[n + 0]? = some (hg t n) := fgD (by omega)
  have y1 : t.2.2.2.2.2.2.1[n + 1]? = some (hg t (n + 1)) := fgD (by omega)
  have y2 : t.2.2.2.2.2.2.1[n + c + 1 + 0]? = some (hg t (n + c + 1)) := fgD (by omega)
  have y3 : t.2.2.2.2.2.2.1[n + c + 1 + 1]? = some (hg t (n + c + 2)) := fgD (by omega)
  simp only [x0, x1, y0, y1, y2, y3, Option.bind_some]
  cases up with
  | true =>
    simp only [cond_true]
    rw [f64 (by omega), div_p (i64_of (by omega)) (i64_of (by omega)), (slp hcell k2).2, Bool.or_false]
    simp only [Option.bind_some]
    rw [f64 (by omega), div_p (i64_of (by omega)) (i64_of (by omega)), (slp hcell k3).2, Bool.or_false]
    rfl
  | false =>
    simp only [cond_false]
    rw [f64 (by omega), div_p (i64_of (by omega)) (i64_of (by omega)), (slp hcell k1).2, Bool.or_false]
    simp only [Option.bind_some]
    rw [f64 (by omega), div_p (i64_of (by omega)) (i64_of (by omega)), (slp hcell k4).2, Bool.or_false]
    rfl
theorem slopes_r {t : TR} (hC : CntP t) (hR : RngP t) {a b : Int} (h : InC t a b) (up o : Bool) : F28_0 ((t, (a, (b, up))), o) = some (slS t a b up, o) := by
  have K := cor_ok hC hR h
  obtain ⟨c, r, ec, er, hc, hr, hl, hg'⟩ := hC.nat
  have hcell := hR.1
  have h' := h
  obtain ⟨⟨a0, a1⟩, b0', b1'⟩ := h'
  have p := prod_le (a := b) (b := t.2.2.1 + 1) (A := 64) (B := 65) b0' (by omega) (by omega) (by omega)
  have en : IntKind.wrap .i64 (IntKind.wrap .i64 (b * IntKind.wrap .i64 (t.2.2.1 + 1)) + a) = (nOf t a b : Int) := by
    rw [f64 (show -9223372036854775808 ≤ t.2.2.1 + 1 ∧ t.2.2.1 + 1 ≤ 9223372036854775807 by omega), f64 (show -9223372036854775808 ≤ b * (t.2.2.1 + 1) ∧ b * (t.2.2.1 + 1) ≤ 9223372036854775807 by omega), f64 (by omega)]
    unfold nOf
    rw [Int.natCast_add, Int.natCast_mul, Int.natCast_add, Int.toNat_of_nonneg b0', Int.toNat_of_nonneg a0, Int.toNat_of_nonneg (by omega)]; rfl
  unfold F28_0
  simp only [en]
  rw [decide_eq_false (by omega), cond_false, decide_eq_false (by omega), cond_false, decide_eq_false (by omega), cond_false, decide_eq_false (by omega), cond_false]
  unfold slS
  generalize nOf t a b = n at *
  have el : t.2.2.2.2.2.2.1.length ≤ 4225 := by rw [hl]; exact Nat.mul_le_mul (show c + 1 ≤ 65 by omega) (show r + 1 ≤ 65 by omega)
  obtain ⟨kl, k1, k2, k3, k4⟩ := K
  rw [ec] at kl k2 k3 k4 ⊢
  rw [Int.toNat_natCast] at kl k2 k3 k4 ⊢
  have b0 := hg_ok hR (k := n) (by omega)
  have b1 := hg_ok hR (k := n + 1) (by omega)
  have b2 := hg_ok hR (k := n + c + 1) (by omega)
  have b3 := hg_ok hR (k := n + c + 2) (by omega)
  have w1 : IntKind.wrap .i64 ((n : Int) + 1) = ((n + 1 : Nat) : Int) := by rw [f64 (by omega)]; omega
  have w2 : IntKind.wrap .i64 ((n : Int) + (c : Int)) = ((n + c : Nat) : Int) := by rw [f64 (by omega)]; omega
  have w3 : IntKind.wrap .i64 (((n + c : Nat) : Int) + 1) = ((n + c + 1 : Nat) : Int) := by rw [f64 (by omega)]; omega
  have w4 : IntKind.wrap .i64 (((n + c : Nat) : Int) + 2) = ((n + c + 2 : Nat) : Int) := by rw [f64 (by omega)]; omega
  have y0 : rdx t.2.2.2.2.2.2.1 (n : Int) = some (hg t n) := fdD (by omega)
  have y1 : rdx t.2.2.2.2.2.2.1 ((n + 1 : Nat) : Int) = some (hg t (n + 1)) := fdD (by omega)
  have y2 : rdx t.2.2.2.2.2.2.1 ((n + c + 1 : Nat) : Int) = some (hg t (n + c + 1)) := fdD (by omega)
  have y3 : rdx t.2.2.2.2.2.2.1 ((n + c + 2 : Nat) : Int) = some (hg t (n + c + 2)) := fdD (by omega)
  simp only [w1, w2, w3, w4, y0, y1, y2, y3, Option.bind_some]
  cases up with
  | true =>
    simp only [cond_true]
    rw [f64 (by omega), rdiv_eq (i64_of (by omega)) (i64_of (by omega)), (slp hcell k2).2, Bool.or_false]
    simp only [Option.bind_some]
    rw [f64 (by omega), rdiv_eq (i64_of (by omega)) (i64_of (by omega)), (slp hcell k3).2, Bool.or_false]
    rfl
  | false =>
    simp only [cond_false]
    rw [f64 (by omega), rdiv_eq (i64_of (by omega)) (i64_of (by omega)), (slp hcell k1).2, Bool.or_false]
    simp only [Option.bind_some]
    rw [f64 (by omega), rdiv_eq (i64_of (by omega)) (i64_of (by omega)), (slp hcell k4).2, Bool.or_false]
    rfl
theorem slopes_p0 {t : TR} {a b : Int} (h : ¬ InC t a b) (up o : Bool) (gr : List Int) : F44_0 ((a, (b, up)), (o, ((t.2.1, (t.2.2.1, (t.2.2.2.1, (t.2.2.2.2.1, t.2.2.2.2.2.1)))), (gr, t.2.2.2.2.2.2.1)))) = some ((0, 0), (o, ((t.2.1, (t.2.2.1, (t.2.2.2.1, (t.2.2.2.2.1, t.2.2.2.2.2.1)))), (t.2.2.2.2.2.2.1, gr)))) := by
  unfold F44_0
  simp only [at_out h, Option.bind_some, Bool.not_false, cond_true]
theorem slopes_r0 {t : TR} {a b : Int} (h : ¬ InC t a b) (up o : Bool) : F28_0 ((t, (a, (b, up))), o) = some ((0, 0), o) := by
  unfold F28_0
  simp only []
  by_cases c1 : a < 0
  · rw [decide_eq_true c1, cond_true]
  rw [decide_eq_false c1, cond_false]
  by_cases c2 : a ≥ t.2.2.1
  · rw [decide_eq_true c2, cond_true]
  rw [decide_eq_false c2, cond_false]
  by_cases c3 : b < 0
  · rw [decide_eq_true c3, cond_true]
  rw [decide_eq_false c3, cond_false]
  by_cases c4 : b ≥ t.2.2.2.1
  · rw [decide_eq_true c4, cond_true]
  exfalso; apply h; unfold InC; omega
theorem base_p {t : TR} (hC : CntP t) (hR : RngP t) {a b : Int} (h : InC t a b) (gr : List Int) : F48_0 ((a, b), ((t.2.1, (t.2.2.1, (t.2.2.2.1, (t.2.2.2.2.1, t.2.2.2.2.2.1)))), (gr, t.2.2.2.2.2.2.1))) = some (hg t (nOf t a b), ((t.2.1, (t.2.2.1, (t.2.2.2.1, (t.2.2.2.2.1, t.2.2.2.2.2.1)))), (t.2.2.2.2.2.2.1, gr))) := by
  have K := (cor_ok hC hR h).len
  unfold F48_0
  simp only [at_in hC hR h, Option.bind_some, cond_true, fidx (show nOf t a b < t.2.2.2.2.2.2.1.length by omega), fgD (show nOf t a b < t.2.2.2.2.2.2.1.length by omega)]
  rfl
theorem base_p0 {t : TR} {a b : Int} (h : ¬ InC t a b) (gr : List Int) : F48_0 ((a, b), ((t.2.1, (t.2.2.1, (t.2.2.2.1, (t.2.2.2.2.1, t.2.2.2.2.2.1)))), (gr, t.2.2.2.2.2.2.1))) = some (0, ((t.2.1, (t.2.2.1, (t.2.2.2.1, (t.2.2.2.2.1, t.2.2.2.2.2.1)))), (t.2.2.2.2.2.2.1, gr))) := by
  unfold F48_0
  simp only [at_out h, Option.bind_some, cond_false]
theorem base_r {t : TR} (hC : CntP t) (hR : RngP t) {a b : Int} (h : InC t a b) : F57_0 (t, (a, b)) = some (hg t (nOf t a b)) := by
  have K := (cor_ok hC hR h).len
  have h' := h
  have hc := hC.1
  have hr := hC.2.1
  obtain ⟨⟨a0, a1⟩, b0', b1'⟩ := h'
  have p := prod_le (a := b) (b := t.2.2.1 + 1) (A := 64) (B := 65) b0' (by omega) (by omega) (by omega)
  have en : IntKind.wrap .i64 (IntKind.wrap .i64 (b * IntKind.wrap .i64 (t.2.2.1 + 1)) + a) = (nOf t a b : Int) := by
    rw [f64 (show -9223372036854775808 ≤ t.2.2.1 + 1 ∧ t.2.2.1 + 1 ≤ 9223372036854775807 by omega), f64 (show -9223372036854775808 ≤ b * (t.2.2.1 + 1) ∧ b * (t.2.2.1 + 1) ≤ 9223372036854775807 by omega), f64 (by omega)]
    unfold nOf
    rw [Int.natCast_add, Int.natCast_mul, Int.natCast_add, Int.toNat_of_nonneg b0', Int.toNat_of_nonneg a0, Int.toNat_of_nonneg (by omega)]; rfl
  unfold F57_0
  simp only [en]
  rw [decide_eq_false (by omega), cond_false, decide_eq_false (by omega), cond_false, decide_eq_false (by omega), cond_false, decide_eq_false (by omega), cond_false, fdD (by omega)]
  rfl
theorem base_r0 {t : TR} {a b : Int} (h : ¬ InC t a b) : F57_0 (t, (a, b)) = some 0 := by
  unfold F57_0
  simp only []
  by_cases c1 : a < 0
  · rw [decide_eq_true c1, cond_true]
  rw [decide_eq_false c1, cond_false]
  by_cases c2 : a ≥ t.2.2.1
  · rw [decide_eq_true c2, cond_true]
  rw [decide_eq_false c2, cond_false]
  by_cases c3 : b < 0
  · rw [decide_eq_true c3, cond_true]
  rw [decide_eq_false c3, cond_false]
  by_cases c4 : b ≥ t.2.2.2.1
  · rw [decide_eq_true c4, cond_true]
  exfalso; apply h; unfold InC; omega
/-! ### FieldWhere -/
end Go.Proofs.YtneiaaalbpjgiaaGreat.Ev
