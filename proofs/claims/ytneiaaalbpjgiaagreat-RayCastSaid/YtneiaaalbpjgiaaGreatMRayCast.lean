/- Where any ray meets any ground: the document's cells, and the program's. -/
import Derived.Test.YtneiaaalbpjgiaaGreatMRay3
set_option linter.unusedVariables false
set_option linter.unusedSimpArgs false
namespace Go.Proofs.YtneiaaalbpjgiaaGreat.Ev
open Go

theorem few13 (t : TR) : ∃ b, F4_0 t = some b ∧ (b = true → FewP t ∧ CntP t ∧ RngP t ∧ t.2.2.2.2.2.2.2.1.length ≤ 100) := by
  obtain ⟨b, e, hb⟩ := few_eq t
  unfold F4_0
  rw [e]
  simp only [bnd']
  cases b with
  | false => exact ⟨false, rfl, fun h => by cases h⟩
  | true =>
    have hf := hb.1 rfl
    simp only [cond_true]
    by_cases h1 : (t.2.2.2.2.2.2.2.1.length : Int) ≤ 100
    · rw [decide_eq_true h1, cond_true, right_eq t hf, bnd']
      by_cases hC : CntP t
      · by_cases hR : RngP t
        · rw [if_pos hC, if_pos hR]; exact ⟨true, rfl, fun _ => ⟨hf, hC, hR, by omega⟩⟩
        · rw [if_pos hC, if_neg hR]; exact ⟨false, rfl, fun h => by cases h⟩
      · rw [if_neg hC]; exact ⟨false, rfl, fun h => by cases h⟩
    · rw [decide_eq_false h1]; exact ⟨false, rfl, fun h => by cases h⟩
theorem rsubI {a b : Int} (ha : I64 a) (hb : I64 b) (h : -9223372036854775808 ≤ a - b ∧ a - b ≤ 9223372036854775807) (o : Bool) : F54_0 ((a, b), o) = some (a - b, o) := by
  unfold I64 at ha hb
  unfold F54_0
  simp only [rbound_eq, Option.bind_some]
  by_cases h1 : b < 0
  · rw [decide_eq_true h1, cond_true, b64 (show -9223372036854775808 ≤ 9223372036854775807 + b ∧ 9223372036854775807 + b ≤ 9223372036854775807 by omega), decide_eq_false (show ¬ a > 9223372036854775807 + b by omega), cond_false, decide_eq_false (show ¬ b > 0 by omega), cond_false, b64 h]
  · rw [decide_eq_false h1, cond_false]
    by_cases h2 : b > 0
    · rw [decide_eq_true h2, cond_true, b64 (show -9223372036854775808 ≤ -9223372036854775808 + b ∧ -9223372036854775808 + b ≤ 9223372036854775807 by omega), decide_eq_false (show ¬ a < -9223372036854775808 + b by omega), cond_false, b64 h]
    · rw [decide_eq_false h2, cond_false, b64 h]
theorem pt_r_in {o d : V3} {l s : Int} (h : RayOk o d l) (hs : 0 ≤ s ∧ s ≤ 274877906944) (f : Bool) : F60_0 ((o, (d, s)), f) = some (ptV o d s, f) := (pt_in h hs f).2
/-- The document's triangle. -/
theorem meet_r {t : TR} (hC : CntP t) (hR : RngP t) {o d : V3} {l : Int} (h : RayOk o d l) {c r : Int} (hc : InC t c r) (up : Bool) (f : Bool) :
    ∃ x f', F27_0 ((t, (c, (r, (up, (o, (d, l)))))), f) = some ((x, (Meet t o d l c r up).isSome), f') ∧ ∀ s, Meet t o d l c r up = some s → x = s := by
  have K := cell_ok hC hR h hc up
  have fa := cell_far hC hR hc
  have g := hR.2.1
  obtain ⟨ox, oy, oz, dx, dy, dz, hl⟩ := h
  have h : RayOk o d l := ⟨ox, oy, oz, dx, dy, dz, hl⟩
  have stE : stV t d c r up = d.2.2 - mulR (slS t c r up).1 d.1 - mulR (slS t c r up).2 d.2.1 := rfl
  have ovE : ovV t o c r up = o.2.2 - (hg t (nOf t c r) + mulR (slS t c r up).1 (xV t o c) + mulR (slS t c r up).2 (yV t o r)) := rfl
  have sE : sV t o d c r up = if ovV t o c r up > 0 then divS (ovV t o c r up) (-(stV t d c r up)) else 0 := rfl
  have MeE : Meet t o d l c r up = if stV t d c r up ≥ 0 then none else if sV t o d c r up > l then none else if hitB t (ptV o d (sV t o d c r up)) c r up = true then some (sV t o d c r up) else none := rfl
  unfold F27_0
  simp only []
  rw [slopes_r hC hR hc]
  simp only [bnd']
  obtain ⟨⟨s1, s2⟩, m1, m2, xb, yb, n1, n2, gb⟩ := K
  generalize slS t c r up = sl at *
  rw [(mulF s1 dx (by decide) f).2]
  simp only [bnd']
  rw [rsubI (i64_of (by omega)) (i64_of (by omega)) (by omega)]
  simp only [bnd']
  rw [(mulF s2 dy (by decide) f).2]
  simp only [bnd']
  rw [rsubI (i64_of (by omega)) (i64_of (by omega)) (by omega)]
  simp only [bnd']
  rw [← stE, base_r hC hR hc]
  simp only [bnd']
  have stb : -12884901888 ≤ stV t d c r up ∧ stV t d c r up ≤ 12884901888 := by rw [stE]; omega
  have ex : IntKind.wrap .i64 (IntKind.wrap .i64 (o.1 - t.2.2.2.2.1) - IntKind.wrap .i64 (c * t.2.1)) = xV t o c := by
    rw [b64 (show -9223372036854775808 ≤ o.1 - t.2.2.2.2.1 ∧ o.1 - t.2.2.2.2.1 ≤ 9223372036854775807 by omega), b64 (show -9223372036854775808 ≤ c * t.2.1 ∧ c * t.2.1 ≤ 9223372036854775807 by omega), b64 (by omega)]; rfl
  have ey : IntKind.wrap .i64 (IntKind.wrap .i64 (o.2.1 - t.2.2.2.2.2.1) - IntKind.wrap .i64 (r * t.2.1)) = yV t o r := by
    rw [b64 (show -9223372036854775808 ≤ o.2.1 - t.2.2.2.2.2.1 ∧ o.2.1 - t.2.2.2.2.2.1 ≤ 9223372036854775807 by omega), b64 (show -9223372036854775808 ≤ r * t.2.1 ∧ r * t.2.1 ≤ 9223372036854775807 by omega), b64 (by omega)]; rfl
  rw [ex, ey, (mulF s1 xb (by decide) f).2]
  simp only [bnd']
  rw [raddI (i64_of (by omega)) (i64_of (by omega)) (by omega)]
  simp only [bnd']
  rw [(mulF s2 yb (by decide) f).2]
  simp only [bnd']
  rw [raddI (i64_of (by omega)) (i64_of (by omega)) (by omega)]
  simp only [bnd']
  rw [rsubI (i64_of (by omega)) (i64_of (by omega)) (by omega)]
  simp only [bnd']
  rw [← ovE]
  have ovb : -2251799813685248 ≤ ovV t o c r up ∧ ovV t o c r up ≤ 2251799813685248 := by rw [ovE]; omega
  by_cases hs0 : stV t d c r up ≥ 0
  · rw [decide_eq_true hs0, cond_true, MeE, if_pos hs0]
    exact ⟨_, _, rfl, fun s hs => by cases hs⟩
  rw [if_neg hs0] at MeE
  rw [decide_eq_false hs0, cond_false]
  have tail : ∀ (s : Int) (f1 : Bool), 0 ≤ s → sV t o d c r up = s → ∃ x f',
      (bif decide (s > l) then some (((0 : Int), false), f1)
       else (F60_0 ((o, (d, s)), f1)).bind fun r2335 =>
        (F61_0 (t, (r2335.1.1, r2335.1.2.1))).bind fun r2336 =>
        bif (r2336.1 == c) then
          bif (r2336.2.1 == r) then some ((s, ((decide (r2336.2.2.1 < r2336.2.2.2)) == up)), r2335.2)
          else some ((s, false), r2335.2)
        else some ((s, false), r2335.2)) = some ((x, (Meet t o d l c r up).isSome), f') ∧ ∀ s, Meet t o d l c r up = some s → x = s := by
    intro s f1 s0 hs
    rw [hs] at MeE
    by_cases c1 : s > l
    · rw [decide_eq_true c1, cond_true, MeE, if_pos c1]
      exact ⟨_, _, rfl, fun s hs => by cases hs⟩
    rw [if_neg c1] at MeE
    rw [decide_eq_false c1, cond_false, pt_r_in h ⟨s0, by omega⟩]
    simp only [bnd']
    rw [where_r hC hR]
    simp only [bnd']
    have hB : hitB t (ptV o d s) c r up = (((W t (ptV o d s).1 (ptV o d s).2.1).1 == c) && (((W t (ptV o d s).1 (ptV o d s).2.1).2.1 == r) && (decide ((W t (ptV o d s).1 (ptV o d s).2.1).2.2.1 < (W t (ptV o d s).1 (ptV o d s).2.1).2.2.2) == up))) := rfl
    rw [hB] at MeE
    generalize W t (ptV o d s).1 (ptV o d s).2.1 = w at *
    rw [MeE]
    cases e1 : (w.1 == c) with
    | false => exact ⟨s, f1, by simp, fun s hs => by simp at hs⟩
    | true =>
      cases e2 : (w.2.1 == r) with
      | false => exact ⟨s, f1, by simp, fun s hs => by simp at hs⟩
      | true =>
        cases e3 : (decide (w.2.2.1 < w.2.2.2) == up) with
        | false => exact ⟨s, f1, by simp, fun s hs => by simp at hs⟩
        | true => exact ⟨s, f1, by simp, fun s' hs => by simp at hs; exact hs⟩
  by_cases hov : ovV t o c r up > 0
  · rw [decide_eq_true hov, cond_true, rnegI (by omega)]
    simp only [bnd']
    rw [rdiv_eq (i64_of (by omega)) (i64_of (by omega))]
    simp only [bnd']
    have q := divS_nn (a := ovV t o c r up) (b := -(stV t d c r up)) (by omega) (by omega)
    rw [if_pos hov] at sE
    exact tail _ _ q sE
  · rw [decide_eq_false hov, cond_false]
    rw [if_neg hov] at sE
    exact tail 0 f (Int.le_refl _) sE
/-! ### The document's loop -/
def refS (t : TR) (o d : V3) (l : Int) (N i : Nat) (st : Option Hit) : Option Hit := stepV t o d l st ((i / 2 % N : Nat) : Int) ((i / 2 / N : Nat) : Int) (((i % 2 : Nat) : Int) == 1)
def refF (t : TR) (o d : V3) (l : Int) (N : Nat) : Nat → Nat → Option Hit → Option Hit
  | 0, _, st => st
  | n + 1, i, st => refF t o d l N n (i + 1) (refS t o d l N i st)
theorem step_new {t : TR} {o d : V3} {l c r s : Int} {up : Bool} (h : Meet t o d l c r up = some s) : stepV t o d l none c r up = some (newH t s c r up) := by unfold stepV; rw [h]
theorem step_old {t : TR} {o d : V3} {l c r s : Int} {up : Bool} (y : Hit) (h : Meet t o d l c r up = some s) : stepV t o d l (some y) c r up = if s < y.1 then some (newH t s c r up) else some y := by unfold stepV; rw [h]
theorem rcK (n : Nat) (v) : K8_0 (n + 1) v = B8_0_7 (K8_0 n) v := rfl
theorem ref_loop {t : TR} (hC : CntP t) (hR : RngP t) {o d : V3} {l : Int} (h : RayOk o d l) {N M : Nat} (hN : t.2.2.1 = (N : Int)) (hM : t.2.2.2.1 = (M : Int)) (h100 : M * N ≤ 100) (z : Int × Int × Int × Int × Int) (mf : Bool) : ∀ (n i fu : Nat) (st : Option Hit) (f : Bool), i + n = 2 * (M * N) → n < fu →
    K8_0 fu ((l, (st.isSome, (i : Int))), (f, ((hitR st).1, (z, (d, (o, (t, mf))))))) = some (hitR (refF t o d l N n i st), mf) := by
  have bc := hC.1
  have br := hC.2.1
  have hNp : 0 < N := by omega
  intro n
  induction n with
  | zero =>
    intro i fu st f hi hf
    obtain ⟨fu, rfl⟩ : ∃ q, fu = q + 1 := ⟨fu - 1, by omega⟩
    refine (rcK _ _).trans ?_
    unfold B8_0_7
    simp only [hN, hM]
    rw [← Int.natCast_mul, Nat.mul_comm N M, b64 (show -9223372036854775808 ≤ ((M * N : Nat) : Int) ∧ ((M * N : Nat) : Int) ≤ 9223372036854775807 by omega), b64 (by omega), decide_eq_false (by omega), cond_false]
    cases st <;> rfl
  | succ n ih =>
    intro i fu st f hi hf
    obtain ⟨fu, rfl⟩ : ∃ q, fu = q + 1 := ⟨fu - 1, by omega⟩
    have hlt : i / 2 < M * N := by omega
    have rl : i / 2 / N < M := Nat.div_lt_of_lt_mul (by rw [Nat.mul_comm]; exact hlt)
    have cl : i / 2 % N < N := Nat.mod_lt _ hNp
    have hc : InC t ((i / 2 % N : Nat) : Int) ((i / 2 / N : Nat) : Int) := ⟨⟨Int.natCast_nonneg _, by rw [hN]; exact Int.ofNat_lt.2 cl⟩, Int.natCast_nonneg _, by rw [hM]; exact Int.ofNat_lt.2 rl⟩
    obtain ⟨x, f', e, hx⟩ := meet_r hC hR h hc (((i % 2 : Nat) : Int) == 1) f
    have kd := kd_at hC hc
    have S := slS_in hC hR hc (((i % 2 : Nat) : Int) == 1)
    refine (rcK _ _).trans ?_
    unfold B8_0_7
    simp only [hN, hM]
    rw [← Int.natCast_mul, Nat.mul_comm N M, b64 (show -9223372036854775808 ≤ ((M * N : Nat) : Int) ∧ ((M * N : Nat) : Int) ≤ 9223372036854775807 by omega), b64 (show -9223372036854775808 ≤ ((M * N : Nat) : Int) * 2 ∧ ((M * N : Nat) : Int) * 2 ≤ 9223372036854775807 by omega), decide_eq_true (by omega), cond_true]
    have t1 : IntKind.wrap .i64 (Int.tdiv (i : Int) 2) = ((i / 2 : Nat) : Int) := by
      rw [Int.tdiv_eq_ediv_of_nonneg (by omega), show (i : Int) / 2 = ((i / 2 : Nat) : Int) from rfl, b64 (by omega)]
    have t2 : Int.tmod ((i / 2 : Nat) : Int) (N : Int) = ((i / 2 % N : Nat) : Int) := by rw [tmod_nn (by omega), ← Int.natCast_emod]
    have t3 : IntKind.wrap .i64 (Int.tdiv ((i / 2 : Nat) : Int) (N : Int)) = ((i / 2 / N : Nat) : Int) := by
      rw [Int.tdiv_eq_ediv_of_nonneg (by omega), ← Int.natCast_ediv]
      have hM64 : M ≤ 64 := by omega
      generalize i / 2 / N = q at rl
      exact b64 (by omega)
    have t4 : Int.tmod (i : Int) 2 = ((i % 2 : Nat) : Int) := by rw [tmod_nn (by omega)]; rfl
    rw [t1, show ((N : Int) != 0) = true from bne_iff_ne.2 (by omega)]
    simp only [chk, bnd', t2, t3, t4]
    rw [e]
    simp only [bnd']
    have k1 : IntKind.wrap .i64 ((i : Int) + 1) = ((i + 1 : Nat) : Int) := by rw [b64 (by omega)]; omega
    rw [hN] at kd
    have kd2 := kd.2
    simp only [Int.toNat_natCast] at kd kd2
    have sS : refF t o d l N (n + 1) i st = refF t o d l N n (i + 1) (stepV t o d l st ((i / 2 % N : Nat) : Int) ((i / 2 / N : Nat) : Int) (((i % 2 : Nat) : Int) == 1)) := rfl
    rw [sS]
    have upE : ∀ o', (F28_0 ((t, (((i / 2 % N : Nat) : Int), (((i / 2 / N : Nat) : Int), (((i % 2 : Nat) : Int) == 1)))), o')) = some (slS t ((i / 2 % N : Nat) : Int) ((i / 2 / N : Nat) : Int) (((i % 2 : Nat) : Int) == 1), o') := fun o' => slopes_r hC hR hc _ o'
    have kdE : kdV t ((i / 2 % N : Nat) : Int) ((i / 2 / N : Nat) : Int) = t.2.2.2.2.2.2.2.1.getD (i / 2 / N * N + i / 2 % N) 0 := by unfold kdV; rw [hN]; simp only [Int.toNat_natCast]
    have upN : ∀ o', F29_0 (slS t ((i / 2 % N : Nat) : Int) ((i / 2 / N : Nat) : Int) (((i % 2 : Nat) : Int) == 1), o') = some (nV (slS t ((i / 2 % N : Nat) : Int) ((i / 2 / N : Nat) : Int) (((i % 2 : Nat) : Int) == 1)).1 (slS t ((i / 2 % N : Nat) : Int) ((i / 2 / N : Nat) : Int) (((i % 2 : Nat) : Int) == 1)).2, o') := by
      intro o'
      generalize slS t ((i / 2 % N : Nat) : Int) ((i / 2 / N : Nat) : Int) (((i % 2 : Nat) : Int) == 1) = sl at *
      unfold F29_0
      simp only []
      rw [rnegI (by omega)]
      simp only [bnd']
      rw [rnegI (by omega)]
      simp only [bnd']
      rw [(nV_ok S.1 S.2 o').2]
      rfl
    have nH : ∀ s, newH t s ((i / 2 % N : Nat) : Int) ((i / 2 / N : Nat) : Int) (((i % 2 : Nat) : Int) == 1) = (s, (nV (slS t ((i / 2 % N : Nat) : Int) ((i / 2 / N : Nat) : Int) (((i % 2 : Nat) : Int) == 1)).1 (slS t ((i / 2 % N : Nat) : Int) ((i / 2 / N : Nat) : Int) (((i % 2 : Nat) : Int) == 1)).2, kdV t ((i / 2 % N : Nat) : Int) ((i / 2 / N : Nat) : Int))) := fun s => rfl
    cases hm : Meet t o d l ((i / 2 % N : Nat) : Int) ((i / 2 / N : Nat) : Int) (((i % 2 : Nat) : Int) == 1) with
    | none =>
      rw [step_no _ hm]
      simp only [Option.isSome_none, cond_false]
      rw [k1]
      exact ih (i + 1) fu st f' (by omega) (by omega)
    | some s =>
      obtain rfl := hx s hm
      simp only [Option.isSome_some, cond_true]
      cases st with
      | none =>
        rw [step_new hm]
        simp only [Option.isSome_none, Bool.not_false, cond_true]
        rw [upE, bnd', upN, bnd', kd2, fdD kd.1, bnd', k1]
        have := ih (i + 1) fu (some (newH t x ((i / 2 % N : Nat) : Int) ((i / 2 / N : Nat) : Int) (((i % 2 : Nat) : Int) == 1))) f' (by omega) (by omega)
        rw [nH, kdE] at this ⊢
        exact this
      | some y =>
        rw [step_old y hm]
        simp only [Option.isSome_some, Bool.not_true, cond_false]
        have hy : (hitR (some y)).1.1 = y.1 := rfl
        rw [hy]
        by_cases c1 : x < y.1
        · rw [decide_eq_true c1, cond_true, upE, bnd', upN, bnd', kd2, fdD kd.1, bnd', k1]
          rw [if_pos c1]
          have := ih (i + 1) fu (some (newH t x ((i / 2 % N : Nat) : Int) ((i / 2 / N : Nat) : Int) (((i % 2 : Nat) : Int) == 1))) f' (by omega) (by omega)
          rw [nH, kdE] at this ⊢
          exact this
        · rw [decide_eq_false c1, cond_false, k1]
          rw [if_neg c1]
          exact ih (i + 1) fu (some y) f' (by omega) (by omega)
/-! ### Row by row -/
theorem refF_add (t : TR) (o d : V3) (l : Int) (N : Nat) : ∀ (a b i : Nat) (st : Option Hit), refF t o d l N (a + b) i st = refF t o d l N b (i + a) (refF t o d l N a i st) := by
  intro a
  induction a with
  | zero => intro b i st; rw [Nat.zero_add]; rfl
  | succ a ih =>
    intro b i st
    rw [show a + 1 + b = (a + b) + 1 by omega]
    show refF t o d l N (a + b) (i + 1) _ = _
    rw [ih, show i + 1 + a = i + (a + 1) by omega]
    rfl
theorem ref_row (t : TR) (o d : V3) (l : Int) {N : Nat} (hN : 0 < N) (r : Nat) : ∀ (n c : Nat) (st : Option Hit), c + n ≤ N → refF t o d l N (2 * n) (2 * (r * N + c)) st = rowV t o d l (r : Int) n (c : Int) st := by
  intro n
  induction n with
  | zero => intro c st _; rfl
  | succ n ih =>
    intro c st hc
    have e1 : 2 * (r * N + c) / 2 = r * N + c := by omega
    have e2 : (2 * (r * N + c) + 1) / 2 = r * N + c := by omega
    have e3 : (r * N + c) % N = c := by rw [Nat.add_comm, Nat.add_mul_mod_self_right, Nat.mod_eq_of_lt (by omega)]
    have e4 : (r * N + c) / N = r := by rw [Nat.add_comm, Nat.add_mul_div_right _ _ hN, Nat.div_eq_of_lt (by omega), Nat.zero_add]
    have e5 : 2 * (r * N + c) % 2 = 0 := by omega
    have e6 : (2 * (r * N + c) + 1) % 2 = 1 := by omega
    rw [show 2 * (n + 1) = 2 * n + 1 + 1 by omega]
    show refF t o d l N (2 * n) (2 * (r * N + c) + 1 + 1) (refS t o d l N (2 * (r * N + c) + 1) (refS t o d l N (2 * (r * N + c)) st)) = _
    unfold refS
    rw [e1, e2, e3, e4, e5, e6, show 2 * (r * N + c) + 1 + 1 = 2 * (r * N + (c + 1)) by omega, ih (c + 1) _ (by omega)]
    rfl
theorem ref_area (t : TR) (o d : V3) (l : Int) {N : Nat} (hN : 0 < N) : ∀ (m r : Nat) (st : Option Hit), refF t o d l N (2 * (m * N)) (2 * (r * N)) st = areaV t o d l 0 N m (r : Int) st := by
  intro m
  induction m with
  | zero => intro r st; rw [Nat.zero_mul]; rfl
  | succ m ih =>
    intro r st
    rw [show 2 * ((m + 1) * N) = 2 * N + 2 * (m * N) by rw [Nat.add_mul]; omega, refF_add]
    have := ref_row t o d l hN r N 0 st (by omega)
    rw [Nat.add_zero] at this
    rw [this, show 2 * (r * N) + 2 * N = 2 * ((r + 1) * N) by rw [Nat.add_mul]; omega, ih]
    rfl
/-! ### Cells that are not met -/
theorem row_add (t : TR) (o d : V3) (l r : Int) : ∀ (a b : Nat) (c : Int) (st : Option Hit), rowV t o d l r (a + b) c st = rowV t o d l r b (c + a) (rowV t o d l r a c st) := by
  intro a
  induction a with
  | zero => intro b c st; rw [Nat.zero_add, show c + ((0 : Nat) : Int) = c by omega]; rfl
  | succ a ih =>
    intro b c st
    rw [show a + 1 + b = (a + b) + 1 by omega]
    show rowV t o d l r (a + b) (c + 1) _ = _
    rw [ih, show c + 1 + (a : Int) = c + ((a + 1 : Nat) : Int) by omega]
    rfl
theorem area_add (t : TR) (o d : V3) (l c : Int) (n : Nat) : ∀ (a b : Nat) (r : Int) (st : Option Hit), areaV t o d l c n (a + b) r st = areaV t o d l c n b (r + a) (areaV t o d l c n a r st) := by
  intro a
  induction a with
  | zero => intro b r st; rw [Nat.zero_add, show r + ((0 : Nat) : Int) = r by omega]; rfl
  | succ a ih =>
    intro b r st
    rw [show a + 1 + b = (a + b) + 1 by omega]
    show areaV t o d l c n (a + b) (r + 1) _ = _
    rw [ih, show r + 1 + (a : Int) = r + ((a + 1 : Nat) : Int) by omega]
    rfl
theorem row_no {t : TR} {o d : V3} {l r : Int} : ∀ (n : Nat) (c : Int) (st : Option Hit), (∀ x up, c ≤ x → x < c + n → Meet t o d l x r up = none) → rowV t o d l r n c st = st := by
  intro n
  induction n with
  | zero => intro c st _; rfl
  | succ n ih =>
    intro c st h
    show rowV t o d l r n (c + 1) (cellV t o d l st c r) = st
    have e : cellV t o d l st c r = st := by
      unfold cellV
      rw [step_no _ (h c false (Int.le_refl _) (by omega)), step_no _ (h c true (Int.le_refl _) (by omega))]
    rw [e]
    exact ih (c + 1) st (fun x up h1 h2 => h x up (by omega) (by omega))
theorem area_no {t : TR} {o d : V3} {l c : Int} {n : Nat} : ∀ (m : Nat) (r : Int) (st : Option Hit), (∀ x y up, r ≤ y → y < r + m → Meet t o d l x y up = none) → areaV t o d l c n m r st = st := by
  intro m
  induction m with
  | zero => intro r st _; rfl
  | succ m ih =>
    intro r st h
    show areaV t o d l c n m (r + 1) (rowV t o d l r n c st) = st
    rw [row_no n c st (fun x up _ _ => h x r up (Int.le_refl _) (by omega))]
    exact ih (r + 1) st (fun x y up h1 h2 => h x y up (by omega) (by omega))
theorem area_cut {t : TR} {o d : V3} {l : Int} {cl ch rl rh : Int} (no : ∀ x y up, ¬ ((cl ≤ x ∧ x ≤ ch) ∧ rl ≤ y ∧ y ≤ rh) → Meet t o d l x y up = none) {N : Nat} (hc : 0 ≤ cl ∧ cl ≤ ch ∧ ch < N) : ∀ (m : Nat) (r : Int) (st : Option Hit), areaV t o d l 0 N m r st = areaV t o d l cl (ch - cl + 1).toNat m r st := by
  intro m
  induction m with
  | zero => intro r st; rfl
  | succ m ih =>
    intro r st
    show areaV t o d l 0 N m (r + 1) (rowV t o d l r N 0 st) = areaV t o d l cl _ m (r + 1) (rowV t o d l r (ch - cl + 1).toNat cl st)
    have e : rowV t o d l r N 0 st = rowV t o d l r (ch - cl + 1).toNat cl st := by
      have s1 : N = cl.toNat + ((ch - cl + 1).toNat + (N - (ch + 1).toNat)) := by omega
      conv => lhs; rw [s1]
      rw [row_add, row_add, row_no cl.toNat 0 st (fun x up h1 h2 => no x r up (by omega)), show (0 : Int) + (cl.toNat : Int) = cl by omega]
      exact row_no _ _ _ (fun x up h1 h2 => no x r up (by omega))
    rw [e]; exact ih _ _
theorem area_all {t : TR} {o d : V3} {l : Int} {cl ch rl rh : Int} (no : ∀ x y up, ¬ ((cl ≤ x ∧ x ≤ ch) ∧ rl ≤ y ∧ y ≤ rh) → Meet t o d l x y up = none) {N M : Nat} (hc : 0 ≤ cl ∧ cl ≤ ch ∧ ch < N) (hr : 0 ≤ rl ∧ rl ≤ rh ∧ rh < M) : areaV t o d l 0 N M 0 none = areaV t o d l cl (ch - cl + 1).toNat (rh - rl + 1).toNat rl none := by
  rw [area_cut no hc]
  have s1 : M = rl.toNat + ((rh - rl + 1).toNat + (M - (rh + 1).toNat)) := by omega
  conv => lhs; rw [s1]
  rw [area_add, area_add, area_no rl.toNat 0 none (fun x y up h1 h2 => no x y up (by omega)), show (0 : Int) + (rl.toNat : Int) = rl by omega]
  exact area_no _ _ _ (fun x y up h1 h2 => no x y up (by omega))
/-! ### A place between two places -/
theorem rhe_mono {p q : Int} (h : p ≤ q) : rhe p 4294967296 ≤ rhe q 4294967296 := by
  unfold rhe
  split <;> split <;> omega
theorem mul_tween {d s l : Int} (h0 : 0 ≤ s) (h1 : s ≤ l) : (0 ≤ mulR d s ∧ mulR d s ≤ mulR d l) ∨ (mulR d l ≤ mulR d s ∧ mulR d s ≤ 0) := by
  have z : mulR d 0 = 0 := mul0 d
  by_cases hd : 0 ≤ d
  · left
    have a := rhe_mono (Int.mul_le_mul_of_nonneg_left h0 hd)
    have b := rhe_mono (Int.mul_le_mul_of_nonneg_left h1 hd)
    unfold mulR at *
    omega
  · right
    have a := rhe_mono (Int.mul_le_mul_of_nonpos_left (show d ≤ 0 by omega) h0)
    have b := rhe_mono (Int.mul_le_mul_of_nonpos_left (show d ≤ 0 by omega) h1)
    unfold mulR at *
    omega
theorem cell_mono {x y f cell many : Int} (hc : 0 < cell) (h : x ≤ y) : cellS (clampS x - f) cell many ≤ cellS (clampS y - f) cell many := by
  have a : clampS x ≤ clampS y := by unfold clampS; split <;> split <;> (try split) <;> (try split) <;> omega
  have b : posS (clampS x - f) ≤ posS (clampS y - f) := by unfold posS; split <;> split <;> omega
  have c := Int.ediv_le_ediv hc b
  unfold cellS
  split <;> split <;> omega
theorem tween_cell {o d s l f cell many : Int} (hc : 0 < cell) (h0 : 0 ≤ s) (h1 : s ≤ l) :
    loI (cellS (clampS (o + mulR d l) - f) cell many) (cellS (clampS o - f) cell many) ≤ cellS (clampS (o + mulR d s) - f) cell many ∧ cellS (clampS (o + mulR d s) - f) cell many ≤ hiI (cellS (clampS (o + mulR d l) - f) cell many) (cellS (clampS o - f) cell many) := by
  unfold loI hiI
  rcases mul_tween (d := d) h0 h1 with ⟨a, b⟩ | ⟨a, b⟩
  · have p := cell_mono (x := o) (y := o + mulR d s) (f := f) (many := many) hc (by omega)
    have q := cell_mono (x := o + mulR d s) (y := o + mulR d l) (f := f) (many := many) hc (by omega)
    split <;> split <;> omega
  · have p := cell_mono (x := o + mulR d s) (y := o) (f := f) (many := many) hc (by omega)
    have q := cell_mono (x := o + mulR d l) (y := o + mulR d s) (f := f) (many := many) hc (by omega)
    split <;> split <;> omega
theorem meet_in {t : TR} (hR : RngP t) {o d : V3} {l x y s : Int} {up : Bool} (hm : Meet t o d l x y up = some s) :
    (loI (W t (ptV o d l).1 (ptV o d l).2.1).1 (W t o.1 o.2.1).1 ≤ x ∧ x ≤ hiI (W t (ptV o d l).1 (ptV o d l).2.1).1 (W t o.1 o.2.1).1) ∧ loI (W t (ptV o d l).1 (ptV o d l).2.1).2.1 (W t o.1 o.2.1).2.1 ≤ y ∧ y ≤ hiI (W t (ptV o d l).1 (ptV o d l).2.1).2.1 (W t o.1 o.2.1).2.1 := by
  obtain ⟨st, es, le, hh⟩ := meet_le hm
  have s0 : 0 ≤ s := by
    rw [es]
    unfold sV
    split
    · exact divS_nn (by omega) (by omega)
    · decide
  unfold hitB at hh
  simp only [Bool.and_eq_true, beq_iff_eq] at hh
  obtain ⟨h1, h2, _⟩ := hh
  have hc : 0 < t.2.1 := by have := hR.1; omega
  rw [← h1, ← h2]
  exact ⟨tween_cell (o := o.1) (d := d.1) (f := t.2.2.2.2.1) (cell := t.2.1) (many := t.2.2.1) hc s0 le, tween_cell (o := o.2.1) (d := d.2.1) (f := t.2.2.2.2.2.1) (cell := t.2.1) (many := t.2.2.2.1) hc s0 le⟩
theorem all_same {t : TR} (hC : CntP t) (hR : RngP t) (o d : V3) (l : Int) {N M : Nat} (hN : t.2.2.1 = (N : Int)) (hM : t.2.2.2.1 = (M : Int)) : refF t o d l N (2 * (M * N)) 0 none = castV t o d l := by
  have bc := hC.1
  have br := hC.2.1
  have w0 := W_ok hC hR o.1 o.2.1
  have w1 := W_ok hC hR (ptV o d l).1 (ptV o d l).2.1
  have e := ref_area t o d l (show 0 < N by omega) M 0 none
  rw [Nat.zero_mul, Nat.mul_zero] at e
  rw [e]
  unfold castV
  have no : ∀ x y up, ¬ ((loI (W t (ptV o d l).1 (ptV o d l).2.1).1 (W t o.1 o.2.1).1 ≤ x ∧ x ≤ hiI (W t (ptV o d l).1 (ptV o d l).2.1).1 (W t o.1 o.2.1).1) ∧ loI (W t (ptV o d l).1 (ptV o d l).2.1).2.1 (W t o.1 o.2.1).2.1 ≤ y ∧ y ≤ hiI (W t (ptV o d l).1 (ptV o d l).2.1).2.1 (W t o.1 o.2.1).2.1) → Meet t o d l x y up = none := by
    intro x y up h
    cases hm : Meet t o d l x y up with
    | none => rfl
    | some s => exact absurd (meet_in hR hm) h
  refine area_all no ?_ ?_
  · unfold loI hiI; have := w0.c0; have := w0.c1; have := w1.c0; have := w1.c1; split <;> split <;> omega
  · unfold loI hiI; have := w0.r0; have := w0.r1; have := w1.r0; have := w1.r1; split <;> split <;> omega
theorem rcast_E {t : TR} (hC : CntP t) (hR : RngP t) (h100 : t.2.2.2.2.2.2.2.1.length ≤ 100) (o d : V3) (l : Int) (mf : Bool) (fu : Nat) (hfu : 300 < fu) :
    ∃ x, E8_0 (K8_0 fu) ((t, (o, (d, l))), mf) = some (hitR x, mf) ∧ (RayOk o d l → x = castV t o d l) ∧ (¬ RayOk o d l → x = none) := by
  obtain ⟨n, m, ec, er, hc, hr, hl, hg'⟩ := hC.nat
  obtain ⟨b, e1, e2⟩ := may_r o d l
  unfold E8_0
  simp only []
  rw [e1]
  simp only [bnd']
  cases b with
  | false =>
    refine ⟨none, rfl, fun h => ?_, fun _ => rfl⟩
    have := e2.2 h; cases this
  | true =>
    have h := e2.1 rfl
    simp only [Bool.not_true, cond_false]
    have L := ref_loop hC hR h ec er (by rw [Nat.mul_comm]; omega) (0, (0, (0, (0, 0)))) mf (2 * (m * n)) 0 fu none false (by omega) (by rw [Nat.mul_comm m n]; omega)
    exact ⟨_, L, fun _ => all_same hC hR o d l ec er, fun h' => absurd h h'⟩
theorem law3_0 (v) (h : Dom3_0 v) : F3_0 v = some true := by
  obtain ⟨t, o1, o2, o3, d1, d2, d3, l⟩ := v
  unfold F3_0
  simp only []
  obtain ⟨b, e, hb⟩ := few13 t
  rw [e]
  simp only [bnd']
  cases b with
  | false => simp only [Bool.not_false, cond_true, awake13, bnd']
  | true =>
  simp only [Bool.not_true, cond_false]
  obtain ⟨hf, hC, hR, h100⟩ := hb rfl
  rw [new_eq t hf, if_pos hC, if_pos hR]
  simp only [bnd']
  obtain ⟨x, er, h1, h2⟩ := rcast_E hC hR h100 (o1, (o2, o3)) (d1, (d2, d3)) l false 1000 (by decide)
  have er' : F8_0 ((t, ((o1, (o2, o3)), ((d1, (d2, d3)), l))), false) = some (hitR x, false) := er
  have cp : F7_0 (((o1, (o2, o3)), ((d1, (d2, d3)), l)), ((fldT t).1, ((fldT t).2.1, ((fldT t).2.2, false)))) = some (hitR x, (f5 t, (false, (t.2.2.2.2.2.2.1, t.2.2.2.2.2.2.2.1)))) := by
    by_cases hr : RayOk (o1, (o2, o3)) (d1, (d2, d3)) l
    · rw [h1 hr]; exact cast_p hC hR h100 hr false
    · rw [h2 hr]; exact cast_no hr false
  rw [cp, bnd', er', bnd']
  simp only [beq_self_eq_true, Bool.and_true, cond_true, awake13, bnd']
end Go.Proofs.YtneiaaalbpjgiaaGreat.Ev
