/- Where a ray meets the ground: the program's cells. -/
import Derived.Test.YtneiaaalbpjgiaaGreatMRay2
set_option linter.unusedVariables false
set_option linter.unusedSimpArgs false
namespace Go.Proofs.YtneiaaalbpjgiaaGreat.Ev
open Go

def cellV (t : TR) (o d : V3) (l : Int) (st : Option Hit) (c r : Int) : Option Hit := stepV t o d l (stepV t o d l st c r false) c r true
def rowV (t : TR) (o d : V3) (l : Int) (r : Int) : Nat → Int → Option Hit → Option Hit
  | 0, _, st => st
  | n + 1, c, st => rowV t o d l r n (c + 1) (cellV t o d l st c r)
def areaV (t : TR) (o d : V3) (l : Int) (c : Int) (n : Nat) : Nat → Int → Option Hit → Option Hit
  | 0, _, st => st
  | m + 1, r, st => areaV t o d l c n m (r + 1) (rowV t o d l r n c st)
def GoodR (l : Int) (st : Option Hit) : Prop := ∀ x, st = some x → x.1 ≤ l
theorem meet_le {t : TR} {o d : V3} {l c r s : Int} {up : Bool} (h : Meet t o d l c r up = some s) : stV t d c r up < 0 ∧ s = sV t o d c r up ∧ s ≤ l ∧ hitB t (ptV o d s) c r up = true := by
  unfold Meet at h
  by_cases h1 : stV t d c r up ≥ 0
  · rw [if_pos h1] at h; cases h
  rw [if_neg h1] at h
  by_cases h2 : sV t o d c r up > l
  · rw [if_pos h2] at h; cases h
  rw [if_neg h2] at h
  by_cases h3 : hitB t (ptV o d (sV t o d c r up)) c r up = true
  · rw [if_pos h3] at h; cases h
    exact ⟨by omega, rfl, by omega, h3⟩
  · rw [if_neg h3] at h; cases h
theorem good_step {t : TR} {o d : V3} {l : Int} {st : Option Hit} (h : GoodR l st) (c r : Int) (up : Bool) : GoodR l (stepV t o d l st c r up) := by
  unfold stepV
  cases hm : Meet t o d l c r up with
  | none => exact h
  | some s =>
    have := (meet_le hm).2.2.1
    cases st with
    | none => intro x hx; cases hx; exact this
    | some y =>
      show GoodR l (if s < y.1 then _ else _)
      split
      · intro x hx; cases hx; exact this
      · exact h
theorem good_cell {t : TR} {o d : V3} {l : Int} {st : Option Hit} (h : GoodR l st) (c r : Int) : GoodR l (cellV t o d l st c r) := good_step (good_step h c r false) c r true
theorem good_row {t : TR} {o d : V3} {l r : Int} : ∀ (n : Nat) (c : Int) (st : Option Hit), GoodR l st → GoodR l (rowV t o d l r n c st) := by
  intro n
  induction n with
  | zero => intro c st h; exact h
  | succ n ih => intro c st h; exact ih _ _ (good_cell h c r)
theorem rK1 (n : Nat) (v) : (K7_0 (n + 1)).1 v = B7_0_11 (K7_0 n) v := rfl
theorem rK2 (n : Nat) (v) : (K7_0 (n + 1)).2 v = B7_0_15 (K7_0 n) v := rfl
def cS (t : TR) (o d : V3) (l : Int) (c0 r0 : Int) (st : Option Hit) := cst o d (bst l st) (c0, r0) (xV t o c0) (yV t o r0) t.2.1 st.isSome
def hitR (st : Option Hit) : (Int × Int × Int × Int × Int) × Bool := match st with
  | none => ((0, (0, (0, (0, 0)))), false)
  | some h => ((h.1, (h.2.1.1, (h.2.1.2.1, (h.2.1.2.2, h.2.2)))), true)
theorem fl64 {a : Int} (h : -64 ≤ a ∧ a ≤ 65) : flOk a = true := decide_eq_true (by omega)
theorem inR {t : TR} (hC : CntP t) (hR : RngP t) {o d : V3} {l : Int} (h : RayOk o d l) {c0 r0 : Int} (hc0 : InC t c0 r0) {a b : Int} {C : Nat} (R : Int) (ha : 0 ≤ a ∧ a + C ≤ t.2.2.1) (hb : 0 ≤ b ∧ b < t.2.2.2.1) (hRr : -9223372036854775807 ≤ R ∧ R ≤ 9223372036854775807) (fl : Bool) (z : Int × Int × Int × Int × Int) : ∀ (n i fu : Nat) (st : Option Hit) (f : Bool), i + n = C → n < fu → GoodR l st →
    ∃ fu' f', fu ≤ fu' + n + 1 ∧ (K7_0 fu).2 (((C : Int), (R, ((a, b), ((a + i, b), ((C : Int), (i : Int)))))), (cS t o d l c0 r0 st, (f, (z, (f5 t, (fl, (t.2.2.2.2.2.2.1, t.2.2.2.2.2.2.2.1))))))) = (K7_0 fu').1 (((C : Int), (R - 1, (a, b + 1))), (cS t o d l c0 r0 (rowV t o d l b n (a + i) st), (f', (z, (f5 t, (fl, (t.2.2.2.2.2.2.1, t.2.2.2.2.2.2.2.1))))))) := by
  intro n
  have bc := hC.1
  have br := hC.2.1
  induction n with
  | zero =>
    intro i fu st f hi hf hg
    obtain ⟨fu, rfl⟩ : ∃ q, fu = q + 1 := ⟨fu - 1, by omega⟩
    refine ⟨fu, f, by omega, ?_⟩
    refine (rK2 _ _).trans ?_
    unfold B7_0_15
    rw [decide_eq_false (by simp only []; omega), cond_false]
    simp only []
    rw [fl64 (by omega), fl64 (by omega), b64 (by omega), show a + 0 = a by omega]
    rfl
  | succ n ih =>
    intro i fu st f hi hf hg
    obtain ⟨fu, rfl⟩ : ∃ q, fu = q + 1 := ⟨fu - 1, by omega⟩
    have hc : InC t (a + i) b := ⟨⟨by omega, by omega⟩, hb⟩
    obtain ⟨f1, e1⟩ := meet_p hC hR h hc false st hg hc0 f _ rfl
    obtain ⟨f2, e2⟩ := meet_p hC hR h hc true _ (good_step hg (a + i) b false) hc0 f1 _ rfl
    obtain ⟨fu', f', hfu, e3⟩ := ih (i + 1) fu _ f2 (by omega) (by omega) (good_cell hg (a + i) b)
    refine ⟨fu', f', by omega, ?_⟩
    refine (rK2 _ _).trans ?_
    unfold B7_0_15
    rw [decide_eq_true (by simp only []; omega), cond_true]
    simp only []
    have e1' : F25_0 (((a + i, b), false), (cS t o d l c0 r0 st, (f5 t, (t.2.2.2.2.2.2.2.1, (t.2.2.2.2.2.2.1, f))))) = _ := e1
    rw [e1']
    simp only [bnd']
    rw [e2]
    simp only [bnd']
    rw [fl64 (by omega), fl64 (by omega), b64 (by omega)]
    simp only [Bool.and_self, chk, bnd']
    rw [show a + (i : Int) + 1 = a + ((i + 1 : Nat) : Int) by omega, show b + 0 = b by omega, show (i : Int) + 1 = ((i + 1 : Nat) : Int) by omega]
    refine Eq.trans e3 ?_
    rw [show a + ((i + 1 : Nat) : Int) = a + (i : Int) + 1 by omega]
    rfl
theorem outR {t : TR} (hC : CntP t) (hR : RngP t) {o d : V3} {l : Int} (h : RayOk o d l) {c0 r0 : Int} (hc0 : InC t c0 r0) {a : Int} {C : Nat} (ha : 0 ≤ a ∧ a + C ≤ t.2.2.1) (fl : Bool) (z : Int × Int × Int × Int × Int) (hz : z = (0, (0, (0, (0, 0))))) : ∀ (R : Nat) (b : Int) (fu : Nat) (st : Option Hit) (f : Bool), 0 ≤ b → b + R ≤ t.2.2.2.1 → R * (C + 2) < fu → GoodR l st →
    (K7_0 fu).1 (((C : Int), ((R : Int), (a, b))), (cS t o d l c0 r0 st, (f, (z, (f5 t, (fl, (t.2.2.2.2.2.2.1, t.2.2.2.2.2.2.2.1))))))) = some (hitR (areaV t o d l a C R b st), (f5 t, (fl, (t.2.2.2.2.2.2.1, t.2.2.2.2.2.2.2.1)))) := by
  intro R
  have bc := hC.1
  have br := hC.2.1
  induction R with
  | zero =>
    intro b fu st f h1 h2 hf hg
    obtain ⟨fu, rfl⟩ : ∃ q, fu = q + 1 := ⟨fu - 1, by omega⟩
    refine (rK1 _ _).trans ?_
    unfold B7_0_11
    rw [decide_eq_false (by simp only []; omega), cond_false]
    subst hz
    cases st <;> rfl
  | succ R ih =>
    intro b fu st f h1 h2 hf hg
    rw [Nat.succ_mul] at hf
    obtain ⟨fu, rfl⟩ : ∃ q, fu = q + 1 := ⟨fu - 1, by omega⟩
    obtain ⟨fu', f', hfu, e⟩ := inR hC hR h hc0 (a := a) (b := b) (C := C) ((R + 1 : Nat) : Int) ha ⟨h1, by omega⟩ (by omega) fl z C 0 fu st f (by omega) (by omega) hg
    have e2 := ih (b + 1) fu' _ f' (by omega) (by omega) (by omega) (good_row (r := b) (t := t) (o := o) (d := d) C a st hg)
    refine (rK1 _ _).trans ?_
    unfold B7_0_11
    rw [decide_eq_true (by simp only []; omega), cond_true]
    rw [show a + ((0 : Nat) : Int) = a by omega, show ((R + 1 : Nat) : Int) - 1 = (R : Int) by omega] at e
    exact Eq.trans e e2
def loI (x y : Int) : Int := if x < y then x else y
def hiI (x y : Int) : Int := if x > y then x else y
def castV (t : TR) (o d : V3) (l : Int) : Option Hit :=
  areaV t o d l (loI (W t (ptV o d l).1 (ptV o d l).2.1).1 (W t o.1 o.2.1).1) (hiI (W t (ptV o d l).1 (ptV o d l).2.1).1 (W t o.1 o.2.1).1 - loI (W t (ptV o d l).1 (ptV o d l).2.1).1 (W t o.1 o.2.1).1 + 1).toNat
    (hiI (W t (ptV o d l).1 (ptV o d l).2.1).2.1 (W t o.1 o.2.1).2.1 - loI (W t (ptV o d l).1 (ptV o d l).2.1).2.1 (W t o.1 o.2.1).2.1 + 1).toNat (loI (W t (ptV o d l).1 (ptV o d l).2.1).2.1 (W t o.1 o.2.1).2.1) none
theorem cast_E {t : TR} (hC : CntP t) (hR : RngP t) (h100 : t.2.2.2.2.2.2.2.1.length ≤ 100) {o d : V3} {l : Int} (h : RayOk o d l) (fl : Bool) (fu : Nat) (hfu : 300 < fu) :
    E7_0 (K7_0 fu) ((o, (d, l)), (f5 t, (t.2.2.2.2.2.2.2.1, (t.2.2.2.2.2.2.1, fl)))) = some (hitR (castV t o d l), (f5 t, (fl, (t.2.2.2.2.2.2.1, t.2.2.2.2.2.2.2.1)))) := by
  obtain ⟨b, e1, e2⟩ := may_p o d l
  obtain rfl : b = true := e2.2 h
  have w0 := W_ok hC hR o.1 o.2.1
  have w1 := W_ok hC hR (ptV o d l).1 (ptV o d l).2.1
  have bc := hC.1
  have br := hC.2.1
  have area : (t.2.2.1.toNat) * t.2.2.2.1.toNat ≤ 100 := by
    obtain ⟨n, m, ec, er, hc, hr, hl, hg'⟩ := hC.nat
    rw [ec, er]; simp only [Int.toNat_natCast]; omega
  unfold E7_0
  simp only []
  rw [e1]
  simp only [bnd', Bool.not_true, cond_false]
  have wp0 := where_p hC hR o.1 o.2.1
  have wp1 := where_p hC hR (ptV o d l).1 (ptV o d l).2.1
  unfold fldT fldO at wp0 wp1
  rw [show f5 t = (t.2.1, (t.2.2.1, (t.2.2.2.1, (t.2.2.2.2.1, t.2.2.2.2.2.1)))) from rfl, wp0]
  simp only [bnd']
  rw [pt_p_in h h.l]
  simp only [bnd']
  rw [wp1]
  simp only [bnd']
  have ex : (W t o.1 o.2.1).2.2.1 = xV t o (W t o.1 o.2.1).1 := by
    have : clampS o.1 = o.1 := by unfold clampS; have := h.ox; rw [if_neg (by omega), if_neg (by omega)]
    unfold W xV; simp only [this]
  have ey : (W t o.1 o.2.1).2.2.2 = yV t o (W t o.1 o.2.1).2.1 := by
    have : clampS o.2.1 = o.2.1 := by unfold clampS; have := h.oy; rw [if_neg (by omega), if_neg (by omega)]
    unfold W yV; simp only [this]
  rw [ex, ey]
  unfold castV
  have hl := h.l
  generalize (W t (ptV o d l).1 (ptV o d l).2.1) = q at *
  have i0 := w0.inc
  generalize W t o.1 o.2.1 = w at *
  rw [fl64 (by have := w0.c0; have := w0.c1; omega), fl64 (by have := w0.r0; have := w0.r1; omega)]
  simp only [chk, bnd']
  first | unfold F24_1 | unfold F24_0
  simp only [bnd']
  have c1 : 0 ≤ loI q.1 w.1 ∧ loI q.1 w.1 ≤ hiI q.1 w.1 ∧ hiI q.1 w.1 < t.2.2.1 := by unfold loI hiI; have := w0.c0; have := w0.c1; have := w1.c0; have := w1.c1; split <;> split <;> omega
  have r1 : 0 ≤ loI q.2.1 w.2.1 ∧ loI q.2.1 w.2.1 ≤ hiI q.2.1 w.2.1 ∧ hiI q.2.1 w.2.1 < t.2.2.2.1 := by unfold loI hiI; have := w0.r0; have := w0.r1; have := w1.r0; have := w1.r1; split <;> split <;> omega
  have k1 : (if q.1 < w.1 then q.1 else w.1) = loI q.1 w.1 := rfl
  have k2 : (if q.2.1 < w.2.1 then q.2.1 else w.2.1) = loI q.2.1 w.2.1 := rfl
  have k3 : (if q.1 > w.1 then q.1 else w.1) = hiI q.1 w.1 := rfl
  have k4 : (if q.2.1 > w.2.1 then q.2.1 else w.2.1) = hiI q.2.1 w.2.1 := rfl
  rw [k1, k2, k3, k4]
  generalize loI q.1 w.1 = cl at *
  generalize hiI q.1 w.1 = ch at *
  generalize loI q.2.1 w.2.1 = rl at *
  generalize hiI q.2.1 w.2.1 = rh at *
  rw [fl64 (by omega), fl64 (by omega)]
  simp only [chk, bnd']
  rw [b64 (show -9223372036854775808 ≤ l + 1 ∧ l + 1 ≤ 9223372036854775807 by omega), b64 (show -9223372036854775808 ≤ ch - cl ∧ ch - cl ≤ 9223372036854775807 by omega), b64 (show -9223372036854775808 ≤ ch - cl + 1 ∧ ch - cl + 1 ≤ 9223372036854775807 by omega), b64 (show -9223372036854775808 ≤ rh - rl ∧ rh - rl ≤ 9223372036854775807 by omega), b64 (show -9223372036854775808 ≤ rh - rl + 1 ∧ rh - rl + 1 ≤ 9223372036854775807 by omega)]
  obtain ⟨C, hC'⟩ : ∃ C : Nat, ch - cl + 1 = (C : Int) := ⟨(ch - cl + 1).toNat, by omega⟩
  obtain ⟨R, hR'⟩ : ∃ R : Nat, rh - rl + 1 = (R : Int) := ⟨(rh - rl + 1).toNat, by omega⟩
  rw [hC', hR']
  simp only [Int.toNat_natCast]
  have hprod : R * C ≤ 100 := by
    have := Nat.mul_le_mul (show C ≤ t.2.2.1.toNat by omega) (show R ≤ t.2.2.2.1.toNat by omega)
    rw [Nat.mul_comm] at this
    omega
  have e := outR hC hR h i0 (a := cl) (C := C) ⟨by omega, by omega⟩ fl (0, (0, (0, (0, 0)))) rfl R rl fu none false (by omega) (by omega) (by rw [Nat.mul_add]; omega) (by intro x hx; cases hx)
  exact e
theorem cast_p {t : TR} (hC : CntP t) (hR : RngP t) (h100 : t.2.2.2.2.2.2.2.1.length ≤ 100) {o d : V3} {l : Int} (h : RayOk o d l) (fl : Bool) :
    F7_0 ((o, (d, l)), (f5 t, (t.2.2.2.2.2.2.2.1, (t.2.2.2.2.2.2.1, fl)))) = some (hitR (castV t o d l), (f5 t, (fl, (t.2.2.2.2.2.2.1, t.2.2.2.2.2.2.2.1)))) :=
  cast_E hC hR h100 h fl 1000 (by decide)
theorem cast_no {t : TR} {o d : V3} {l : Int} (h : ¬ RayOk o d l) (fl : Bool) :
    F7_0 ((o, (d, l)), (f5 t, (t.2.2.2.2.2.2.2.1, (t.2.2.2.2.2.2.1, fl)))) = some (hitR none, (f5 t, (fl, (t.2.2.2.2.2.2.1, t.2.2.2.2.2.2.2.1)))) := by
  obtain ⟨b, e1, e2⟩ := may_p o d l
  have hb : b = false := by cases b; rfl; exact absurd (e2.1 rfl) h
  subst hb
  have : ∀ K, E7_0 K ((o, (d, l)), (f5 t, (t.2.2.2.2.2.2.2.1, (t.2.2.2.2.2.2.1, fl)))) = some (hitR none, (f5 t, (fl, (t.2.2.2.2.2.2.1, t.2.2.2.2.2.2.2.1)))) := by
    intro K
    unfold E7_0
    simp only [e1, bnd', Bool.not_false, cond_true]
    rfl
  exact this _
end Go.Proofs.YtneiaaalbpjgiaaGreat.Ev
