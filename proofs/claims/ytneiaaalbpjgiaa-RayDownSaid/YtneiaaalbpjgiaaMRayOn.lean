/- A ray straight down; and a place where a ray meets the ground is on it. -/
import Derived.Test.YtneiaaalbpjgiaaMRay3
set_option linter.unusedVariables false
set_option linter.unusedSimpArgs false
namespace Go.Proofs.Ytneiaaalbpjgiaa.Ev
open Go

theorem few13 (t : TR) : ∃ b, F35_0 t = some b ∧ (b = true → FewP t ∧ CntP t ∧ RngP t ∧ t.2.2.2.2.2.2.2.1.length ≤ 100) := by
  obtain ⟨b, e, hb⟩ := few_eq t
  unfold F35_0
  rw [e]
  simp only [bnd']
  cases b with
  | false => exact ⟨false, rfl, fun h => by cases h⟩
  | true =>
    have hf := hb.1 rfl
    simp only [cond_true]
    by_cases h1 : (t.2.2.2.2.2.2.2.1.length : Int) ≤ 100
    · rw [decide_eq_true h1, cond_true, right_eq t hf, bnd']
      by_cases hC : CntP t
      · by_cases hR : RngP t
        · rw [if_pos hC, if_pos hR]; exact ⟨true, rfl, fun _ => ⟨hf, hC, hR, by omega⟩⟩
        · rw [if_pos hC, if_neg hR]; exact ⟨false, rfl, fun h => by cases h⟩
      · rw [if_neg hC]; exact ⟨false, rfl, fun h => by cases h⟩
    · rw [decide_eq_false h1]; exact ⟨false, rfl, fun h => by cases h⟩
theorem normal_v {t : TR} (hC : CntP t) (hR : RngP t) (x y : Int) (o : Bool) : F23_0 ((x, y), (o, fldT t)) = some (nV (slW t (W t x y)).1 (slW t (W t x y)).2, (o, fldO t)) := by
  have hw := W_ok hC hR x y
  have s := slS_in hC hR hw.inc (upOf (W t x y))
  have hI := hw.inc
  have e1 := where_p hC hR x y
  unfold slW
  unfold upOf at *
  generalize W t x y = w at *
  unfold F23_0
  simp only []
  rw [e1]
  simp only [bnd', fldO, slopes_p hC hR hI]
  have k := (nV_ok s.1 s.2 o).1
  generalize slS t w.1 w.2.1 (decide (w.2.2.1 < w.2.2.2)) = sl at *
  rw [b64 (show -9223372036854775808 ≤ 0 - sl.1 ∧ 0 - sl.1 ≤ 9223372036854775807 by omega), b64 (show -9223372036854775808 ≤ 0 - sl.2 ∧ 0 - sl.2 ≤ 9223372036854775807 by omega), show 0 - sl.1 = -sl.1 by omega, show 0 - sl.2 = -sl.2 by omega, k]
  rfl
theorem mulR_z (s : Int) : mulR 0 s = 0 := by unfold mulR; rw [Int.zero_mul]; rfl
theorem divS_one {x : Int} (h : I64 x) : divS x 4294967296 = x := by
  have e : divR x 4294967296 = x := by
    unfold divR rhe
    rw [if_pos (by decide), Int.mul_ediv_cancel _ (by decide), Int.mul_emod_left]
    rw [if_neg (by omega)]
  unfold divS
  rw [if_neg (by decide), e, sat_in h]
/-! ### Straight down -/
theorem down {t : TR} (hC : CntP t) (hR : RngP t) {p : V3} (h : RayOk p (0, (0, -4294967296)) 274877906944) :
    castV t p (0, (0, -4294967296)) 274877906944 = if p.2.2 - HtW t (W t p.1 p.2.1) > 274877906944 then none else some (newH t (if p.2.2 - HtW t (W t p.1 p.2.1) > 0 then p.2.2 - HtW t (W t p.1 p.2.1) else 0) (W t p.1 p.2.1).1 (W t p.1 p.2.1).2.1 (upOf (W t p.1 p.2.1))) := by
  have hw := W_ok hC hR p.1 p.2.1
  have hI := hw.inc
  have pt : ∀ s, (ptV p (0, (0, -4294967296)) s).1 = p.1 ∧ (ptV p (0, (0, -4294967296)) s).2.1 = p.2.1 := by
    intro s
    unfold ptV
    simp only [mulR_z]
    exact ⟨by omega, by omega⟩
  have ex : (W t p.1 p.2.1).2.2.1 = xV t p (W t p.1 p.2.1).1 := by
    have : clampS p.1 = p.1 := by unfold clampS; have := h.ox; rw [if_neg (by omega), if_neg (by omega)]
    unfold W xV; simp only [this]
  have ey : (W t p.1 p.2.1).2.2.2 = yV t p (W t p.1 p.2.1).2.1 := by
    have : clampS p.2.1 = p.2.1 := by unfold clampS; have := h.oy; rw [if_neg (by omega), if_neg (by omega)]
    unfold W yV; simp only [this]
  have K := cell_ok hC hR h hI (upOf (W t p.1 p.2.1))
  have ov : ovV t p (W t p.1 p.2.1).1 (W t p.1 p.2.1).2.1 (upOf (W t p.1 p.2.1)) = p.2.2 - HtW t (W t p.1 p.2.1) := by
    unfold ovV HtW slW
    rw [ex, ey]
  have st : ∀ c r up, stV t (0, (0, -4294967296)) c r up = -4294967296 := by
    intro c r up
    unfold stV
    simp only [mul0]
    omega
  have hz := h.oz
  have hB := HtW_in hC hR hw
  have o64 : I64 (p.2.2 - HtW t (W t p.1 p.2.1)) := i64_of (by omega)
  have sv : sV t p (0, (0, -4294967296)) (W t p.1 p.2.1).1 (W t p.1 p.2.1).2.1 (upOf (W t p.1 p.2.1)) = if p.2.2 - HtW t (W t p.1 p.2.1) > 0 then p.2.2 - HtW t (W t p.1 p.2.1) else 0 := by
    unfold sV
    rw [ov, st, show -(-4294967296 : Int) = 4294967296 from rfl, divS_one o64]
  have hit : ∀ s up, hitB t (ptV p (0, (0, -4294967296)) s) (W t p.1 p.2.1).1 (W t p.1 p.2.1).2.1 up = (upOf (W t p.1 p.2.1) == up) := by
    intro s up
    unfold hitB
    rw [(pt s).1, (pt s).2]
    simp
  have me : ∀ up, Meet t p (0, (0, -4294967296)) 274877906944 (W t p.1 p.2.1).1 (W t p.1 p.2.1).2.1 up = if upOf (W t p.1 p.2.1) = up then (if p.2.2 - HtW t (W t p.1 p.2.1) > 274877906944 then none else some (if p.2.2 - HtW t (W t p.1 p.2.1) > 0 then p.2.2 - HtW t (W t p.1 p.2.1) else 0)) else none := by
    intro up
    unfold Meet
    rw [st, if_neg (by decide), hit]
    by_cases e : upOf (W t p.1 p.2.1) = up
    · subst e
      rw [sv, if_pos rfl]
      simp only [beq_self_eq_true, if_true]
      by_cases h1 : p.2.2 - HtW t (W t p.1 p.2.1) > 274877906944
      · rw [if_pos (show p.2.2 - HtW t (W t p.1 p.2.1) > 0 by omega), if_pos h1]
      · rw [if_neg (show ¬ (if p.2.2 - HtW t (W t p.1 p.2.1) > 0 then p.2.2 - HtW t (W t p.1 p.2.1) else 0) > 274877906944 by split <;> omega), if_neg h1]
    · rw [if_neg e]
      have : (upOf (W t p.1 p.2.1) == up) = false := beq_eq_false_iff_ne.2 e
      rw [this]
      split
      · rfl
      · rfl
  unfold castV
  rw [(pt 274877906944).1, (pt 274877906944).2]
  have lo : ∀ x : Int, loI x x = x ∧ hiI x x = x := fun x => ⟨by unfold loI; split <;> rfl, by unfold hiI; split <;> rfl⟩
  rw [(lo _).1, (lo _).2, (lo _).1, (lo _).2, show (W t p.1 p.2.1).1 - (W t p.1 p.2.1).1 + 1 = 1 by omega, show (W t p.1 p.2.1).2.1 - (W t p.1 p.2.1).2.1 + 1 = 1 by omega]
  show cellV t p (0, (0, -4294967296)) 274877906944 none (W t p.1 p.2.1).1 (W t p.1 p.2.1).2.1 = _
  unfold cellV
  generalize W t p.1 p.2.1 = w at *
  cases hu : upOf w with
  | false =>
    have m1 := me false
    have m2 := me true
    rw [hu, if_pos rfl] at m1
    rw [hu, if_neg (by decide)] at m2
    rw [step_no (up := true) _ m2]
    unfold stepV
    rw [m1]
    split <;> split at * <;> simp_all
  | true =>
    have m1 := me false
    have m2 := me true
    rw [hu, if_neg (by decide)] at m1
    rw [hu, if_pos rfl] at m2
    rw [step_no (up := false) _ m1]
    unfold stepV
    rw [m2]
    split <;> split at * <;> simp_all
theorem law10_0 (v) (h : Dom10_0 v) : F10_0 v = some true := by
  obtain ⟨t, p⟩ := v
  unfold F10_0
  simp only []
  obtain ⟨b, e, hb⟩ := few13 t
  rw [e]
  simp only [bnd']
  cases b with
  | false => simp only [Bool.not_false, cond_true, awake13, bnd']
  | true =>
    simp only [Bool.not_true, cond_false]
    obtain ⟨hf, hC, hR, h100⟩ := hb rfl
    obtain ⟨b, e1, e2⟩ := may_r p (0, (0, -4294967296)) 0
    rw [e1]
    simp only [bnd']
    cases b with
    | false => simp only [Bool.not_false, cond_true, awake13, bnd']
    | true =>
      simp only [Bool.not_true, cond_false]
      have m := e2.1 rfl
      have h : RayOk p (0, (0, -4294967296)) 274877906944 := ⟨m.ox, m.oy, m.oz, m.dx, m.dy, m.dz, by decide⟩
      rw [new_eq t hf, if_pos hC, if_pos hR]
      simp only [bnd']
      have hw := W_ok hC hR p.1 p.2.1
      have hB := HtW_in hC hR hw
      have hz := h.oz
      have hp := height_p hC hR p.1 p.2.1 false
      rw [hp]
      simp only [bnd', fldO]
      rw [subI (i64_of (by omega)) (i64_of (by omega)) (by omega)]
      simp only [bnd']
      have cp := cast_p hC hR h100 h false
      have cp' : F36_0 ((p, (((0 : Int), ((0 : Int), (-4294967296 : Int))), (274877906944 : Int))), ((t.2.1, (t.2.2.1, (t.2.2.2.1, (t.2.2.2.2.1, t.2.2.2.2.2.1)))), (t.2.2.2.2.2.2.2.1, (t.2.2.2.2.2.2.1, false)))) = _ := cp
      rw [cp', down hC hR h]
      simp only [bnd']
      by_cases c1 : p.2.2 - HtW t (W t p.1 p.2.1) > 274877906944
      · rw [decide_eq_true c1, cond_true, if_pos c1]
        simp only [hitR, Bool.not_false, cond_true, awake13, bnd']
      · rw [decide_eq_false c1, cond_false, if_neg c1]
        simp only [hitR, cond_true, newH]
        have k1 : ((if p.2.2 - HtW t (W t p.1 p.2.1) > 0 then p.2.2 - HtW t (W t p.1 p.2.1) else 0) == (if (0 : Int) > p.2.2 - HtW t (W t p.1 p.2.1) then (0 : Int) else p.2.2 - HtW t (W t p.1 p.2.1))) = true := by
          rw [beq_iff_eq]; split <;> split <;> omega
        rw [k1, cond_true]
        have np := normal_v hC hR p.1 p.2.1 false
        have np' : F23_0 ((p.1, p.2.1), (false, (f5 t, (t.2.2.2.2.2.2.2.1, t.2.2.2.2.2.2.1)))) = _ := np
        rw [np']
        simp only [bnd', fldO, slW, beq_self_eq_true, Bool.and_true, cond_true]
        have kp := kind_p hC hR p.1 p.2.1
        have kp' : F25_0 ((p.1, p.2.1), ((t.2.1, (t.2.2.1, (t.2.2.2.1, (t.2.2.2.2.1, t.2.2.2.2.2.1)))), (t.2.2.2.2.2.2.2.1, t.2.2.2.2.2.2.1))) = _ := kp
        rw [kp']
        simp only [bnd', beq_self_eq_true, cond_true, Bool.not_false, awake13]
/-! ### On the ground -/
def FromM (t : TR) (o d : V3) (l : Int) (st : Option Hit) : Prop := ∀ h, st = some h → ∃ c r up, InC t c r ∧ Meet t o d l c r up = some h.1
theorem from_step {t : TR} {o d : V3} {l : Int} {st : Option Hit} (h : FromM t o d l st) {c r : Int} (hc : InC t c r) (up : Bool) : FromM t o d l (stepV t o d l st c r up) := by
  unfold stepV
  cases hm : Meet t o d l c r up with
  | none => exact h
  | some s =>
    have new : FromM t o d l (some (newH t s c r up)) := by intro x hx; cases hx; exact ⟨c, r, up, hc, hm⟩
    cases st with
    | none => exact new
    | some y =>
      show FromM t o d l (if s < y.1 then _ else _)
      split
      · exact new
      · exact h
theorem from_row {t : TR} {o d : V3} {l r : Int} : ∀ (n : Nat) (c : Int) (st : Option Hit), FromM t o d l st → (0 ≤ c ∧ c + n ≤ t.2.2.1) → (0 ≤ r ∧ r < t.2.2.2.1) → FromM t o d l (rowV t o d l r n c st) := by
  intro n
  induction n with
  | zero => intro c st h _ _; exact h
  | succ n ih =>
    intro c st h hc hr
    have hi : InC t c r := ⟨⟨by omega, by omega⟩, hr⟩
    exact ih _ _ (from_step (from_step h hi false) hi true) (by omega) hr
theorem from_area {t : TR} {o d : V3} {l c : Int} {n : Nat} : ∀ (m : Nat) (r : Int) (st : Option Hit), FromM t o d l st → (0 ≤ c ∧ c + n ≤ t.2.2.1) → (0 ≤ r ∧ r + m ≤ t.2.2.2.1) → FromM t o d l (areaV t o d l c n m r st) := by
  intro m
  induction m with
  | zero => intro r st h _ _; exact h
  | succ m ih =>
    intro r st h hc hr
    exact ih _ _ (from_row n c st h hc ⟨hr.1, by omega⟩) hc (by omega)
theorem from_cast {t : TR} (hC : CntP t) (hR : RngP t) (o d : V3) (l : Int) : FromM t o d l (castV t o d l) := by
  have w0 := W_ok hC hR o.1 o.2.1
  have w1 := W_ok hC hR (ptV o d l).1 (ptV o d l).2.1
  unfold castV
  generalize W t (ptV o d l).1 (ptV o d l).2.1 = q at *
  generalize W t o.1 o.2.1 = w at *
  have c1 : 0 ≤ loI q.1 w.1 ∧ loI q.1 w.1 ≤ hiI q.1 w.1 ∧ hiI q.1 w.1 < t.2.2.1 := by unfold loI hiI; have := w0.c0; have := w0.c1; have := w1.c0; have := w1.c1; split <;> split <;> omega
  have r1 : 0 ≤ loI q.2.1 w.2.1 ∧ loI q.2.1 w.2.1 ≤ hiI q.2.1 w.2.1 ∧ hiI q.2.1 w.2.1 < t.2.2.2.1 := by unfold loI hiI; have := w0.r0; have := w0.r1; have := w1.r0; have := w1.r1; split <;> split <;> omega
  exact from_area _ _ none (fun h hh => by cases hh) (by omega) (by omega)
theorem bndp {a b A B : Int} (ha : -A ≤ a ∧ a ≤ A) (hb : -B ≤ b ∧ b ≤ B) : -(A * B) ≤ a * b ∧ a * b ≤ A * B := by
  have h := Int.natAbs_mul a b
  have h3 := Nat.mul_le_mul (show a.natAbs ≤ A.toNat by omega) (show b.natAbs ≤ B.toNat by omega)
  rw [← h] at h3
  have e : ((A.toNat * B.toNat : Nat) : Int) = A * B := by rw [Int.natCast_mul, Int.toNat_of_nonneg (by omega), Int.toNat_of_nonneg (by omega)]
  generalize A.toNat * B.toNat = N at *
  generalize a * b = p at *
  omega
theorem on_num {a b dx dy dz s x y g oz : Int} (ha : -4294967296 ≤ a ∧ a ≤ 4294967296) (hb : -4294967296 ≤ b ∧ b ≤ 4294967296) (hx : -4294967296 ≤ dx ∧ dx ≤ 4294967296) (hy : -4294967296 ≤ dy ∧ dy ≤ 4294967296) (hz : -4294967296 ≤ dz ∧ dz ≤ 4294967296)
    (hs : 0 ≤ s ∧ s ≤ 274877906944) (hX : -562949953421312 ≤ x ∧ x ≤ 562949953421312) (hY : -562949953421312 ≤ y ∧ y ≤ 562949953421312) (st : dz - mulR a dx - mulR b dy < 0) (ov : oz - (g + mulR a x + mulR b y) > 0)
    (es : 2 * (s * -(dz - mulR a dx - mulR b dy) - (oz - (g + mulR a x + mulR b y)) * 4294967296) ≤ -(dz - mulR a dx - mulR b dy) ∧ -(-(dz - mulR a dx - mulR b dy)) ≤ 2 * (s * -(dz - mulR a dx - mulR b dy) - (oz - (g + mulR a x + mulR b y)) * 4294967296)) :
    -70 ≤ oz + mulR dz s - (g + mulR a (x + mulR dx s) + mulR b (y + mulR dy s)) ∧ oz + mulR dz s - (g + mulR a (x + mulR dx s) + mulR b (y + mulR dy s)) ≤ 70 := by
  have s' : -274877906944 ≤ s ∧ s ≤ 274877906944 := by omega
  have U := mulE (N := 274877906944) hx s'
  have V := mulE (N := 274877906944) hy s'
  have Q := mulE (N := 274877906944) hz s'
  have M1 := mulE (N := 4294967296) ha hx
  have M2 := mulE (N := 4294967296) hb hy
  have A0 := mulE (N := 562949953421312) ha hX
  have B0 := mulE (N := 562949953421312) hb hY
  have A1 := mulE (N := 1125899906842624) ha (show -1125899906842624 ≤ x + mulR dx s ∧ x + mulR dx s ≤ 1125899906842624 by omega)
  have B1 := mulE (N := 1125899906842624) hb (show -1125899906842624 ≤ y + mulR dy s ∧ y + mulR dy s ≤ 1125899906842624 by omega)
  rw [Int.mul_add] at A1 B1
  -- a times what u was rounded by; and s times what m1 was rounded by
  have e1 := bndp (a := a) (b := mulR dx s * 4294967296 - dx * s) (A := 4294967296) (B := 2147483648) ha (by omega)
  have e2 := bndp (a := b) (b := mulR dy s * 4294967296 - dy * s) (A := 4294967296) (B := 2147483648) hb (by omega)
  have e3 := bndp (a := mulR a dx * 4294967296 - a * dx) (b := s) (A := 2147483648) (B := 274877906944) (by omega) s'
  have e4 := bndp (a := mulR b dy * 4294967296 - b * dy) (b := s) (A := 2147483648) (B := 274877906944) (by omega) s'
  rw [Int.mul_sub, ← Int.mul_assoc, ← Int.mul_assoc] at e1 e2
  rw [Int.sub_mul, Int.mul_right_comm] at e3 e4
  have hT : s * -(dz - mulR a dx - mulR b dy) = -(dz * s - mulR a dx * s - mulR b dy * s) := by
    rw [Int.mul_neg, Int.mul_sub, Int.mul_sub, Int.mul_comm s dz, Int.mul_comm s (mulR a dx), Int.mul_comm s (mulR b dy)]
  rw [hT] at es
  clear hT
  generalize mulR a (x + mulR dx s) = A' at *
  generalize mulR b (y + mulR dy s) = B' at *
  generalize a * mulR dx s = au at *
  generalize b * mulR dy s = bv at *
  generalize a * dx * s = ps at *
  generalize b * dy * s = qs at *
  generalize mulR a dx * s = S1 at *
  generalize mulR b dy * s = S2 at *
  generalize dz * s = Sz at *
  generalize mulR a x = A at *
  generalize mulR b y = B at *
  generalize a * x = ax at *
  generalize b * y = bY at *
  generalize mulR dz s = q at *
  obtain ⟨_, A1⟩ := A1
  obtain ⟨_, B1⟩ := B1
  obtain ⟨_, A0⟩ := A0
  obtain ⟨_, B0⟩ := B0
  obtain ⟨_, Q⟩ := Q
  obtain ⟨M1, _⟩ := M1
  obtain ⟨M2, _⟩ := M2
  clear ha hb hx hy hX hY U V st ov
  omega
theorem divS_near {a b s : Int} (hb : 0 < b) (e : divS a b = s) (h : s ≤ 4611686018427387904) (h0 : 0 ≤ s) : 2 * (s * b - a * 4294967296) ≤ b ∧ -b ≤ 2 * (s * b - a * 4294967296) := by
  have r := rhe_near (n := a * 4294967296) (d := b) hb
  have e2 : divR a b = rhe (a * 4294967296) b := by unfold divR; rw [if_pos hb]
  have : rhe (a * 4294967296) b = s ∨ s = 0 := by
    unfold divS at e
    rw [if_neg (by omega), e2] at e
    unfold sat at e
    split at e
    · omega
    · split at e
      · omega
      · exact .inl e
  rcases this with g | g
  · rw [g] at r; exact ⟨r.2, r.1⟩
  · unfold divS at e
    rw [if_neg (by omega), e2] at e
    unfold sat at e
    split at e
    · omega
    · split at e
      · omega
      · rw [e] at r; exact ⟨r.2, r.1⟩
theorem ifd {P : Prop} [inst : Decidable P] (h : P) {α : Type} (a b : α) : (bif decide P then a else b) = a := by rw [decide_eq_true h]; rfl
theorem law9_0 (v) (h : Dom9_0 v) : F9_0 v = some true := by
  obtain ⟨t, o1, o2, o3, d1, d2, d3, l⟩ := v
  unfold F9_0
  simp only []
  obtain ⟨b, e, hb⟩ := few13 t
  rw [e]
  simp only [bnd']
  cases b with
  | false => simp only [Bool.not_false, cond_true, awake13, bnd']
  | true =>
  simp only [Bool.not_true, cond_false]
  obtain ⟨hf, hC, hR, h100⟩ := hb rfl
  by_cases g1 : d3 > -2147483648
  · rw [decide_eq_true g1, cond_true, awake13, bnd']
  by_cases g2 : d1 > 536870912
  · rw [decide_eq_false g1, cond_false, decide_eq_true g2, cond_true, awake13, bnd']
  by_cases g3 : d1 < -536870912
  · rw [decide_eq_false g1, cond_false, decide_eq_false g2, cond_false, decide_eq_true g3, cond_true, awake13, bnd']
  by_cases g4 : d2 > 536870912
  · rw [decide_eq_false g1, cond_false, decide_eq_false g2, cond_false, decide_eq_false g3, cond_false, decide_eq_true g4, cond_true, awake13, bnd']
  by_cases g5 : d2 < -536870912
  · rw [decide_eq_false g1, cond_false, decide_eq_false g2, cond_false, decide_eq_false g3, cond_false, decide_eq_false g4, cond_false, decide_eq_true g5, cond_true, awake13, bnd']
  by_cases g6 : o1 > 35184372088832
  · rw [decide_eq_false g1, cond_false, decide_eq_false g2, cond_false, decide_eq_false g3, cond_false, decide_eq_false g4, cond_false, decide_eq_false g5, cond_false, decide_eq_true g6, cond_true, awake13, bnd']
  by_cases g7 : o1 < -35184372088832
  · rw [decide_eq_false g1, cond_false, decide_eq_false g2, cond_false, decide_eq_false g3, cond_false, decide_eq_false g4, cond_false, decide_eq_false g5, cond_false, decide_eq_false g6, cond_false, decide_eq_true g7, cond_true, awake13, bnd']
  by_cases g8 : o2 > 35184372088832
  · rw [decide_eq_false g1, cond_false, decide_eq_false g2, cond_false, decide_eq_false g3, cond_false, decide_eq_false g4, cond_false, decide_eq_false g5, cond_false, decide_eq_false g6, cond_false, decide_eq_false g7, cond_false, decide_eq_true g8, cond_true, awake13, bnd']
  by_cases g9 : o2 < -35184372088832
  · rw [decide_eq_false g1, cond_false, decide_eq_false g2, cond_false, decide_eq_false g3, cond_false, decide_eq_false g4, cond_false, decide_eq_false g5, cond_false, decide_eq_false g6, cond_false, decide_eq_false g7, cond_false, decide_eq_false g8, cond_false, decide_eq_true g9, cond_true, awake13, bnd']
  rw [decide_eq_false g1, cond_false, decide_eq_false g2, cond_false, decide_eq_false g3, cond_false, decide_eq_false g4, cond_false, decide_eq_false g5, cond_false, decide_eq_false g6, cond_false, decide_eq_false g7, cond_false, decide_eq_false g8, cond_false, decide_eq_false g9, cond_false, new_eq t hf, if_pos hC, if_pos hR]
  simp only [bnd']
  by_cases hr : RayOk (o1, (o2, o3)) (d1, (d2, d3)) l
  case neg =>
    have cp := cast_no (t := t) hr false
    have cp' : F36_0 (((o1, (o2, o3)), ((d1, (d2, d3)), l)), ((fldT t).1, ((fldT t).2.1, ((fldT t).2.2, false)))) = _ := cp
    rw [cp', bnd']
    simp only [hitR, Bool.not_false, cond_true, awake13, bnd']
  have cp := cast_p hC hR h100 hr false
  have cp' : F36_0 (((o1, (o2, o3)), ((d1, (d2, d3)), l)), ((fldT t).1, ((fldT t).2.1, ((fldT t).2.2, false)))) = _ := cp
  rw [cp', bnd']
  have fm := from_cast hC hR (o1, (o2, o3)) (d1, (d2, d3)) l
  cases hcv : castV t (o1, (o2, o3)) (d1, (d2, d3)) l with
  | none => simp only [hitR, Bool.not_false, cond_true, awake13, bnd']
  | some x =>
    obtain ⟨c, r, up, hI, hm⟩ := fm x hcv
    simp only [hitR, Bool.not_true, cond_false]
    by_cases x0 : x.1 = 0
    · rw [show (x.1 == 0) = true by simp [x0], cond_true, awake13, bnd']
    rw [show (x.1 == 0) = false from beq_eq_false_iff_ne.2 x0, cond_false]
    obtain ⟨st, es, le, hh⟩ := meet_le hm
    have K := cell_ok hC hR hr hI up
    have hl := hr.l
    have eov : ovV t (o1, (o2, o3)) c r up > 0 := by
      unfold sV at es
      by_cases q : ovV t (o1, (o2, o3)) c r up > 0
      · exact q
      · rw [if_neg q] at es; exact absurd es x0
    have es' : divS (ovV t (o1, (o2, o3)) c r up) (-(stV t (d1, (d2, d3)) c r up)) = x.1 := by
      unfold sV at es; rw [if_pos eov] at es; exact es.symm
    have s0 : 0 ≤ x.1 := by rw [← es']; exact divS_nn (by omega) (by omega)
    have nr := divS_near (by omega) es' (by omega) s0
    rw [pt_p_in hr ⟨s0, by omega⟩]
    simp only [bnd']
    have hw := W_ok hC hR (ptV (o1, (o2, o3)) (d1, (d2, d3)) x.1).1 (ptV (o1, (o2, o3)) (d1, (d2, d3)) x.1).2.1
    have hB := HtW_in hC hR hw
    have hp := height_p hC hR (ptV (o1, (o2, o3)) (d1, (d2, d3)) x.1).1 (ptV (o1, (o2, o3)) (d1, (d2, d3)) x.1).2.1 false
    have hp' : F21_0 (((ptV (o1, (o2, o3)) (d1, (d2, d3)) x.1).1, (ptV (o1, (o2, o3)) (d1, (d2, d3)) x.1).2.1), (false, (f5 t, (t.2.2.2.2.2.2.2.1, t.2.2.2.2.2.2.1)))) = _ := hp
    rw [hp']
    simp only [bnd']
    have s' : -274877906944 ≤ x.1 ∧ x.1 ≤ 274877906944 := by omega
    have U := (mulE (N := 274877906944) hr.dx s').1
    have V := (mulE (N := 274877906944) hr.dy s').1
    have Q := (mulE (N := 274877906944) hr.dz s').1
    have N := on_num (a := (slS t c r up).1) (b := (slS t c r up).2) (dx := d1) (dy := d2) (dz := d3) (s := x.1) (x := xV t (o1, (o2, o3)) c) (y := yV t (o1, (o2, o3)) r) (g := hg t (nOf t c r)) (oz := o3) K.sl.1 K.sl.2 hr.dx hr.dy hr.dz ⟨s0, by omega⟩ K.x K.y st eov nr
    unfold hitB at hh
    simp only [Bool.and_eq_true, beq_iff_eq] at hh
    obtain ⟨h1, h2, h3⟩ := hh
    have ex : (W t (ptV (o1, (o2, o3)) (d1, (d2, d3)) x.1).1 (ptV (o1, (o2, o3)) (d1, (d2, d3)) x.1).2.1).2.2.1 = xV t (o1, (o2, o3)) c + mulR d1 x.1 := by
      have : clampS (ptV (o1, (o2, o3)) (d1, (d2, d3)) x.1).1 = o1 + mulR d1 x.1 := by unfold clampS ptV; simp only [] at *; rw [if_neg (by omega), if_neg (by omega)]
      rw [← h1]
      unfold W xV; simp only [this]; omega
    have ey : (W t (ptV (o1, (o2, o3)) (d1, (d2, d3)) x.1).1 (ptV (o1, (o2, o3)) (d1, (d2, d3)) x.1).2.1).2.2.2 = yV t (o1, (o2, o3)) r + mulR d2 x.1 := by
      have : clampS (ptV (o1, (o2, o3)) (d1, (d2, d3)) x.1).2.1 = o2 + mulR d2 x.1 := by unfold clampS ptV; simp only [] at *; rw [if_neg (by omega), if_neg (by omega)]
      rw [← h2]
      unfold W yV; simp only [this]; omega
    have eH : HtW t (W t (ptV (o1, (o2, o3)) (d1, (d2, d3)) x.1).1 (ptV (o1, (o2, o3)) (d1, (d2, d3)) x.1).2.1) = hg t (nOf t c r) + mulR (slS t c r up).1 (xV t (o1, (o2, o3)) c + mulR d1 x.1) + mulR (slS t c r up).2 (yV t (o1, (o2, o3)) r + mulR d2 x.1) := by
      unfold HtW slW
      rw [ex, ey, h1, h2, h3]
    rw [eH] at hB ⊢
    have pz : (ptV (o1, (o2, o3)) (d1, (d2, d3)) x.1).2.2 = o3 + mulR d3 x.1 := rfl
    rw [pz]
    have oz := hr.oz
    simp only [] at oz
    generalize hg t (nOf t c r) + mulR (slS t c r up).1 (xV t (o1, (o2, o3)) c + mulR d1 x.1) + mulR (slS t c r up).2 (yV t (o1, (o2, o3)) r + mulR d2 x.1) = H at *
    rw [subI (i64_of (by omega)) (i64_of (by omega)) (by omega)]
    simp only [bnd']
    have q1 : x.1 > 0 := by omega
    refine (ifd q1 _ _).trans ?_
    refine (ifd le _ _).trans ?_
    rw [absI (by omega), bnd']
    simp only []
    rw [decide_eq_true (show (if o3 + mulR d3 x.1 - H < 0 then -(o3 + mulR d3 x.1 - H) else o3 + mulR d3 x.1 - H) ≤ 4194304 by split <;> omega), cond_true, awake13, bnd']
end Go.Proofs.Ytneiaaalbpjgiaa.Ev
