/- A triangle's meeting with a ray. -/
import Derived.Test.YtneiaaalbpjgiaaGreatMRay1
set_option linter.unusedVariables false
set_option linter.unusedSimpArgs false
namespace Go.Proofs.YtneiaaalbpjgiaaGreat.Ev
open Go

abbrev Hit : Type := Int × V3 × Int
def f5 (t : TR) : F5 := (t.2.1, (t.2.2.1, (t.2.2.2.1, (t.2.2.2.2.1, t.2.2.2.2.2.1))))
def nV (a b : Int) : V3 := ((F51_0 ((-a, (-b, 4294967296)), false)).getD (((0, (0, 0)), false), false)).1.1
theorem nV_ok {a b : Int} (ha : -4294967296 ≤ a ∧ a ≤ 4294967296) (hb : -4294967296 ≤ b ∧ b ≤ 4294967296) (o : Bool) : F51_0 ((-a, (-b, 4294967296)), o) = some ((nV a b, true), o) ∧ F62_0 ((-a, (-b, 4294967296)), o) = some ((nV a b, true), o) := by
  obtain ⟨u, _, h⟩ := unit_g (a := -a) (b := -b) (by omega) (by omega)
  have e : nV a b = u := by unfold nV; rw [(h false).1]; rfl
  rw [e]; exact h o
def kdV (t : TR) (c r : Int) : Int := t.2.2.2.2.2.2.2.1.getD (r.toNat * t.2.2.1.toNat + c.toNat) 0
theorem kd_at {t : TR} (hC : CntP t) {c r : Int} (h : InC t c r) : r.toNat * t.2.2.1.toNat + c.toNat < t.2.2.2.2.2.2.2.1.length ∧ IntKind.wrap .i64 (IntKind.wrap .i64 (r * t.2.2.1) + c) = ((r.toNat * t.2.2.1.toNat + c.toNat : Nat) : Int) := by
  obtain ⟨n, m, ec, er, hc, hr, hl, hg'⟩ := hC.nat
  obtain ⟨⟨c0, c1⟩, r0, r1⟩ := h
  obtain ⟨a, ea⟩ := Int.eq_ofNat_of_zero_le c0
  obtain ⟨b, eb⟩ := Int.eq_ofNat_of_zero_le r0
  have l1 : (b + 1) * n ≤ m * n := Nat.mul_le_mul_right _ (by omega)
  rw [Nat.add_mul, Nat.one_mul] at l1
  rw [Nat.mul_comm] at hg'
  have l2 : m * n ≤ 64 * 64 := Nat.mul_le_mul hr.2 hc.2
  rw [ea, eb, ec, ← Int.natCast_mul]
  simp only [Int.toNat_natCast]
  generalize b * n = q at *
  rw [b64 (show -9223372036854775808 ≤ (q : Int) ∧ (q : Int) ≤ 9223372036854775807 by omega), b64 (by omega)]
  exact ⟨by omega, rfl⟩
theorem kind_p {t : TR} (hC : CntP t) (hR : RngP t) (x y : Int) : F52_0 ((x, y), fldT t) = some (kdV t (W t x y).1 (W t x y).2.1, fldO t) := by
  have hw := W_ok hC hR x y
  have e1 := where_p hC hR x y
  generalize W t x y = w at *
  have k := kd_at hC hw.inc
  unfold F52_0 kdV
  rw [e1]
  simp only [Option.bind_some, fldO, k.2, fidx k.1, fgD k.1]
def xV (t : TR) (o : V3) (c : Int) : Int := o.1 - t.2.2.2.2.1 - c * t.2.1
def yV (t : TR) (o : V3) (r : Int) : Int := o.2.1 - t.2.2.2.2.2.1 - r * t.2.1
def stV (t : TR) (d : V3) (c r : Int) (up : Bool) : Int := d.2.2 - mulR (slS t c r up).1 d.1 - mulR (slS t c r up).2 d.2.1
def ovV (t : TR) (o : V3) (c r : Int) (up : Bool) : Int := o.2.2 - (hg t (nOf t c r) + mulR (slS t c r up).1 (xV t o c) + mulR (slS t c r up).2 (yV t o r))
def sV (t : TR) (o d : V3) (c r : Int) (up : Bool) : Int := if ovV t o c r up > 0 then divS (ovV t o c r up) (-(stV t d c r up)) else 0
def hitB (t : TR) (p : V3) (c r : Int) (up : Bool) : Bool := ((W t p.1 p.2.1).1 == c) && (((W t p.1 p.2.1).2.1 == r) && (upOf (W t p.1 p.2.1) == up))
def Meet (t : TR) (o d : V3) (l c r : Int) (up : Bool) : Option Int :=
  if stV t d c r up ≥ 0 then none else if sV t o d c r up > l then none else if hitB t (ptV o d (sV t o d c r up)) c r up = true then some (sV t o d c r up) else none
def newH (t : TR) (s c r : Int) (up : Bool) : Hit := (s, (nV (slS t c r up).1 (slS t c r up).2, kdV t c r))
def stepV (t : TR) (o d : V3) (l : Int) (st : Option Hit) (c r : Int) (up : Bool) : Option Hit := match Meet t o d l c r up with
  | none => st
  | some s => match st with
    | none => some (newH t s c r up)
    | some h => if s < h.1 then some (newH t s c r up) else st
def bst (l : Int) (st : Option Hit) : Hit := match st with | none => (l + 1, ((0, (0, 0)), 0)) | some h => h
def cst (o d : V3) (h : Hit) (fr : Int × Int) (dx dy side : Int) (ok : Bool) : Int × Int × Int × Int × Int × Int × Int × Int × Int × Int × Int × ((Int × Int)) × Int × Int × Int × Bool :=
  (o.1, (o.2.1, (o.2.2, (d.1, (d.2.1, (d.2.2, (h.1, (h.2.1.1, (h.2.1.2.1, (h.2.1.2.2, (h.2.2, (fr, (dx, (dy, (side, ok)))))))))))))))
theorem divS_nn {a b : Int} (ha : 0 ≤ a) (hb : 0 < b) : 0 ≤ divS a b := by
  have e : divR a b = rhe (a * 4294967296) b := by unfold divR; rw [if_pos hb]
  have r := rhe_ge (n := a * 4294967296) (d := b) (M := 0) hb (by omega)
  unfold divS
  rw [if_neg (by omega), e]
  unfold sat
  split
  · decide
  · split <;> omega
structure Cell (t : TR) (o d : V3) (c r : Int) (up : Bool) : Prop where
  sl : (-4294967296 ≤ (slS t c r up).1 ∧ (slS t c r up).1 ≤ 4294967296) ∧ -4294967296 ≤ (slS t c r up).2 ∧ (slS t c r up).2 ≤ 4294967296
  m1 : -4294967296 ≤ mulR (slS t c r up).1 d.1 ∧ mulR (slS t c r up).1 d.1 ≤ 4294967296
  m2 : -4294967296 ≤ mulR (slS t c r up).2 d.2.1 ∧ mulR (slS t c r up).2 d.2.1 ≤ 4294967296
  x : -562949953421312 ≤ xV t o c ∧ xV t o c ≤ 562949953421312
  y : -562949953421312 ≤ yV t o r ∧ yV t o r ≤ 562949953421312
  n1 : -562949953421312 ≤ mulR (slS t c r up).1 (xV t o c) ∧ mulR (slS t c r up).1 (xV t o c) ≤ 562949953421312
  n2 : -562949953421312 ≤ mulR (slS t c r up).2 (yV t o r) ∧ mulR (slS t c r up).2 (yV t o r) ≤ 562949953421312
  g : -2199023255552 ≤ hg t (nOf t c r) ∧ hg t (nOf t c r) ≤ 2199023255552
theorem cell_far {t : TR} (hC : CntP t) (hR : RngP t) {c r : Int} (h : InC t c r) : (0 ≤ c * t.2.1 ∧ c * t.2.1 ≤ 17592186044416) ∧ 0 ≤ r * t.2.1 ∧ r * t.2.1 ≤ 17592186044416 := by
  obtain ⟨⟨c0, c1⟩, r0, r1⟩ := h
  have a := hC.1
  have b := hC.2.1
  have g := hR.1
  have p := prod_le (a := c) (b := t.2.1) (A := 64) (B := 274877906944) c0 (by omega) (by omega) g.2
  have q := prod_le (a := r) (b := t.2.1) (A := 64) (B := 274877906944) r0 (by omega) (by omega) g.2
  omega
theorem cell_ok {t : TR} (hC : CntP t) (hR : RngP t) {o d : V3} {l : Int} (h : RayOk o d l) {c r : Int} (hc : InC t c r) (up : Bool) : Cell t o d c r up := by
  have s := slS_in hC hR hc up
  have f := cell_far hC hR hc
  have g := hR.2.1
  obtain ⟨ox, oy, oz, dx, dy, dz, _⟩ := h
  have x : -562949953421312 ≤ xV t o c ∧ xV t o c ≤ 562949953421312 := by unfold xV; omega
  have y : -562949953421312 ≤ yV t o r ∧ yV t o r ≤ 562949953421312 := by unfold yV; omega
  exact ⟨s, (mulE s.1 dx).1, (mulE s.2 dy).1, x, y, (mulE s.1 x).1, (mulE s.2 y).1, hg_ok hR (by have := (cor_ok hC hR hc).len; omega)⟩
theorem step_no {t : TR} {o d : V3} {l c r : Int} {up : Bool} (st : Option Hit) (h : Meet t o d l c r up = none) : stepV t o d l st c r up = st := by unfold stepV; rw [h]
theorem meet_p {t : TR} (hC : CntP t) (hR : RngP t) {o d : V3} {l : Int} (h : RayOk o d l) {c r : Int} (hc : InC t c r) (up : Bool) (st : Option Hit) (hst : ∀ x, st = some x → x.1 ≤ l) {c0 r0 : Int} (hc0 : InC t c0 r0) (f : Bool) (gr : List Int) (hgr : gr = t.2.2.2.2.2.2.2.1) :
    ∃ f', F25_0 (((c, r), up), (cst o d (bst l st) (c0, r0) (xV t o c0) (yV t o r0) t.2.1 st.isSome, (f5 t, (gr, (t.2.2.2.2.2.2.1, f))))) = some (cst o d (bst l (stepV t o d l st c r up)) (c0, r0) (xV t o c0) (yV t o r0) t.2.1 (stepV t o d l st c r up).isSome, (f5 t, (f', (t.2.2.2.2.2.2.1, gr)))) := by
  subst hgr
  have K := cell_ok hC hR h hc up
  have fa := cell_far hC hR hc
  have fb := cell_far hC hR hc0
  have g := hR.2.1
  have hcs := hR.1
  have bc := hC.1
  have br := hC.2.1
  obtain ⟨⟨cl, cu⟩, rl, ru⟩ := hc
  obtain ⟨⟨cl0, cu0⟩, rl0, ru0⟩ := hc0
  have hc : InC t c r := ⟨⟨cl, cu⟩, rl, ru⟩
  obtain ⟨ox, oy, oz, dx, dy, dz, hl⟩ := h
  have h : RayOk o d l := ⟨ox, oy, oz, dx, dy, dz, hl⟩
  have far1 : (bst l st).1 ≤ l + 1 := by
    unfold bst
    cases st with
    | none => exact Int.le_refl _
    | some x => have := hst x rfl; show x.1 ≤ l + 1; omega
  have parts : ∀ {a b : Int}, (-64 ≤ a ∧ a ≤ 64) → (-64 ≤ b ∧ b ≤ 64) → F43_0 (a, b) = some (a, b) := by
    intro a b ha hb
    unfold F43_0
    simp only []
    rw [decide_eq_true (show IntKind.min .i64 ≤ a ∧ a ≤ IntKind.max .i64 by unfold IntKind.min IntKind.max; simp [IntKind.signed, IntKind.bits]; omega), decide_eq_true (show IntKind.min .i64 ≤ b ∧ b ≤ IntKind.max .i64 by unfold IntKind.min IntKind.max; simp [IntKind.signed, IntKind.bits]; omega)]
    rfl
  have flk : ∀ {a b : Int}, (-64 ≤ a ∧ a ≤ 64) → (-64 ≤ b ∧ b ≤ 64) → (flOk a && flOk b) = true := by
    intro a b ha hb
    unfold flOk
    rw [decide_eq_true (by omega), decide_eq_true (by omega)]; rfl
  have ex : xV t o c0 + (c0 - c) * t.2.1 = xV t o c := by unfold xV; rw [Int.sub_mul]; omega
  have ey : yV t o r0 + (r0 - r) * t.2.1 = yV t o r := by unfold yV; rw [Int.sub_mul]; omega
  have wx1 : IntKind.wrap .i64 ((c0 - c) * t.2.1) = (c0 - c) * t.2.1 := b64 (by rw [Int.sub_mul]; omega)
  have wy1 : IntKind.wrap .i64 ((r0 - r) * t.2.1) = (r0 - r) * t.2.1 := b64 (by rw [Int.sub_mul]; omega)
  have mE := @stepV t o d l st c r up
  unfold F25_0
  simp only [cst, f5]
  rw [parts (by omega) (by omega)]
  simp only [bnd']
  rw [slopes_p hC hR hc]
  simp only [bnd']
  have stE : stV t d c r up = d.2.2 - mulR (slS t c r up).1 d.1 - mulR (slS t c r up).2 d.2.1 := rfl
  have ovE : ovV t o c r up = o.2.2 - (hg t (nOf t c r) + mulR (slS t c r up).1 (xV t o c) + mulR (slS t c r up).2 (yV t o r)) := rfl
  have sE : sV t o d c r up = if ovV t o c r up > 0 then divS (ovV t o c r up) (-(stV t d c r up)) else 0 := rfl
  have MeE : Meet t o d l c r up = if stV t d c r up ≥ 0 then none else if sV t o d c r up > l then none else if hitB t (ptV o d (sV t o d c r up)) c r up = true then some (sV t o d c r up) else none := rfl
  have nH : newH t (sV t o d c r up) c r up = (sV t o d c r up, (nV (slS t c r up).1 (slS t c r up).2, kdV t c r)) := rfl
  obtain ⟨⟨s1, s2⟩, m1, m2, xb, yb, n1, n2, gb⟩ := K
  have u := fun o => (nV_ok s1 s2 o).1
  generalize slS t c r up = sl at *
  rw [(mulF s1 dx (by decide) f).1]
  simp only [bnd']
  rw [subI (i64_of (by omega)) (i64_of (by omega)) (by omega)]
  simp only [bnd']
  rw [(mulF s2 dy (by decide) f).1]
  simp only [bnd']
  rw [subI (i64_of (by omega)) (i64_of (by omega)) (by omega)]
  simp only [bnd']
  rw [← stE]
  have stb : -12884901888 ≤ stV t d c r up ∧ stV t d c r up ≤ 12884901888 := by rw [stE]; omega
  by_cases hs0 : stV t d c r up ≥ 0
  · rw [decide_eq_true hs0, cond_true, step_no st (by rw [MeE, if_pos hs0])]
    exact ⟨f, rfl⟩
  rw [if_neg hs0] at MeE
  rw [decide_eq_false hs0, cond_false, flk (by omega) (by omega), parts (by omega) (by omega)]
  simp only [chk, bnd', wx1, wy1, ex, ey]
  rw [b64 (show -9223372036854775808 ≤ xV t o c ∧ xV t o c ≤ 9223372036854775807 by omega), b64 (show -9223372036854775808 ≤ yV t o r ∧ yV t o r ≤ 9223372036854775807 by omega), base_p hC hR hc]
  simp only [bnd']
  rw [(mulF s1 xb (by decide) f).1]
  simp only [bnd']
  rw [addI (i64_of (by omega)) (i64_of (by omega)) (by omega)]
  simp only [bnd']
  rw [(mulF s2 yb (by decide) f).1]
  simp only [bnd']
  rw [addI (i64_of (by omega)) (i64_of (by omega)) (by omega)]
  simp only [bnd']
  rw [subI (i64_of (by omega)) (i64_of (by omega)) (by omega)]
  simp only [bnd']
  rw [← ovE]
  have ovb : -2251799813685248 ≤ ovV t o c r up ∧ ovV t o c r up ≤ 2251799813685248 := by rw [ovE]; omega
  have tail : ∀ (s : Int) (f1 : Bool), 0 ≤ s → sV t o d c r up = s → ∃ f',
      (bif decide (s ≥ (bst l st).1) then some (cst o d (bst l st) (c0, r0) (xV t o c0) (yV t o r0) t.2.1 st.isSome, (f5 t, (f1, (t.2.2.2.2.2.2.1, t.2.2.2.2.2.2.2.1))))
       else (F23_0 ((o, (d, s)), f1)).bind fun r1781 =>
        (F22_0 ((r1781.1.1, r1781.1.2.1), (f5 t, (t.2.2.2.2.2.2.2.1, t.2.2.2.2.2.2.1)))).bind fun r1782 =>
        bif (r1782.1.1 != c) then some (cst o d (bst l st) (c0, r0) (xV t o c0) (yV t o r0) t.2.1 st.isSome, (r1782.2.1, (r1781.2, r1782.2.2)))
        else bif (r1782.1.2.1 != r) then some (cst o d (bst l st) (c0, r0) (xV t o c0) (yV t o r0) t.2.1 st.isSome, (r1782.2.1, (r1781.2, r1782.2.2)))
          else bif (!((decide (r1782.1.2.2.1 < r1782.1.2.2.2)) == up)) then some (cst o d (bst l st) (c0, r0) (xV t o c0) (yV t o r0) t.2.1 st.isSome, (r1782.2.1, (r1781.2, r1782.2.2)))
            else
              let x1783 : Int := (IntKind.wrap .i64 (0 - sl.1))
              let x1784 : Int := (IntKind.wrap .i64 (0 - sl.2))
              (F51_0 ((x1783, (x1784, (4294967296 : Int))), r1781.2)).bind fun r1785 =>
              (F52_0 ((r1781.1.1, r1781.1.2.1), (r1782.2.1, (r1782.2.2.2, r1782.2.2.1)))).bind fun r1786 =>
              some (cst o d (s, (r1785.1.1, r1786.1)) (c0, r0) (xV t o c0) (yV t o r0) t.2.1 true, (r1786.2.1, (r1785.2, r1786.2.2))))
      = some (cst o d (bst l (stepV t o d l st c r up)) (c0, r0) (xV t o c0) (yV t o r0) t.2.1 (stepV t o d l st c r up).isSome, (f5 t, (f', (t.2.2.2.2.2.2.1, t.2.2.2.2.2.2.2.1)))) := by
    intro s f1 s0 hs
    rw [hs] at MeE nH
    by_cases c1 : s ≥ (bst l st).1
    · rw [decide_eq_true c1, cond_true]
      have : stepV t o d l st c r up = st := by
        by_cases c2 : s > l
        · exact step_no st (by rw [MeE, if_pos c2])
        · rw [if_neg c2] at MeE
          unfold stepV
          rw [MeE]
          cases st with
          | none => exfalso; have : (bst l none).1 = l + 1 := rfl; omega
          | some x =>
            have : (bst l (some x)).1 = x.1 := rfl
            split
            · rfl
            · rename_i q hq
              split at hq
              · cases hq
                show (if s < x.1 then _ else _) = _
                rw [if_neg (by omega)]
              · cases hq
      rw [this]; exact ⟨f1, rfl⟩
    · rw [decide_eq_false c1, cond_false, pt_p_in h ⟨s0, by omega⟩]
      simp only [bnd']
      have wp := where_p hC hR (ptV o d s).1 (ptV o d s).2.1
      have kp := kind_p hC hR (ptV o d s).1 (ptV o d s).2.1
      unfold fldT fldO at wp kp
      rw [show f5 t = (t.2.1, (t.2.2.1, (t.2.2.2.1, (t.2.2.2.2.1, t.2.2.2.2.2.1)))) from rfl, wp]
      simp only [bnd']
      rw [if_neg (show ¬ s > l by omega)] at MeE
      have hB : hitB t (ptV o d s) c r up = (((W t (ptV o d s).1 (ptV o d s).2.1).1 == c) && (((W t (ptV o d s).1 (ptV o d s).2.1).2.1 == r) && (decide ((W t (ptV o d s).1 (ptV o d s).2.1).2.2.1 < (W t (ptV o d s).1 (ptV o d s).2.1).2.2.2) == up))) := rfl
      rw [hB] at MeE
      generalize W t (ptV o d s).1 (ptV o d s).2.1 = w at *
      by_cases e1 : w.1 = c
      case neg =>
        rw [show (w.1 != c) = true from bne_iff_ne.2 e1, cond_true, step_no st (by rw [MeE, show (w.1 == c) = false from beq_eq_false_iff_ne.2 e1]; rfl)]
        exact ⟨f1, rfl⟩
      by_cases e2 : w.2.1 = r
      case neg =>
        rw [show (w.1 != c) = false by simp [e1], cond_false, show (w.2.1 != r) = true from bne_iff_ne.2 e2, cond_true, step_no st (by rw [MeE, show (w.2.1 == r) = false from beq_eq_false_iff_ne.2 e2, Bool.false_and, Bool.and_false]; rfl)]
        exact ⟨f1, rfl⟩
      cases e3 : (decide (w.2.2.1 < w.2.2.2) == up)
      case false =>
        rw [show (w.1 != c) = false by simp [e1], cond_false, show (w.2.1 != r) = false by simp [e2], cond_false, Bool.not_false, cond_true, step_no st (by rw [MeE, e3, Bool.and_false, Bool.and_false]; rfl)]
        exact ⟨f1, rfl⟩
      rw [show (w.1 != c) = false by simp [e1], cond_false, show (w.2.1 != r) = false by simp [e2], cond_false, Bool.not_true, cond_false]
      rw [e3, show (w.1 == c) = true by simp [e1], show (w.2.1 == r) = true by simp [e2], if_pos (show (true && (true && true)) = true from rfl)] at MeE
      rw [b64 (by omega), b64 (by omega), show (0 : Int) - sl.1 = -sl.1 by omega, show (0 : Int) - sl.2 = -sl.2 by omega, u f1, bnd', kp, bnd']
      have : stepV t o d l st c r up = some (newH t s c r up) := by
        unfold stepV
        rw [MeE]
        cases st with
        | none => rfl
        | some x =>
          have : (bst l (some x)).1 = x.1 := rfl
          show (if s < x.1 then _ else _) = _
          rw [if_pos (by omega)]
      rw [this, nH, e1, e2]
      exact ⟨f1, rfl⟩
  by_cases hov : ovV t o c r up > 0
  · rw [decide_eq_true hov, cond_true, neg_p (i64_of (by omega)), sat_in (i64_of (by omega)), bnd']
    simp only []
    rw [div_p (i64_of (by omega)) (i64_of (by omega)), bnd']
    have q := divS_nn (a := ovV t o c r up) (b := -(stV t d c r up)) (by omega) (by omega)
    rw [if_pos hov] at sE
    obtain ⟨f', e⟩ := tail (divS (ovV t o c r up) (-(stV t d c r up))) (f || ovf (-(stV t d c r up)) || divO (ovV t o c r up) (-(stV t d c r up))) q sE
    exact ⟨f', e⟩
  · rw [decide_eq_false hov, cond_false]
    rw [if_neg hov] at sE
    obtain ⟨f', e⟩ := tail 0 f (Int.le_refl _) sE
    exact ⟨f', e⟩
end Go.Proofs.YtneiaaalbpjgiaaGreat.Ev
