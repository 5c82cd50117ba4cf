/- A loop's speeds: which value, told as a row of turns. -/
import Derived.Test.YtbmbnopgekbppaaMProfSpeeds4
import Derived.Test.YtbmbnopgekbppaaMPace
set_option linter.unusedVariables false
set_option linter.unusedSimpArgs false
namespace Go.Proofs.Ytbmbnopgekbppaa.Ev
open Go

def spV (s : List P2) (p : Pc) : List Int := (backV s p.2.2.1 (2 * s.length) (onV s p.2.1 (2 * s.length) 0 (limL s p s.length 0)).1).1
theorem right_ok {p : Pc} (h : F14_0 p = some 0) : (268435456 ≤ p.1 ∧ p.1 ≤ 274877906944) ∧ (0 ≤ p.2.1 ∧ p.2.1 ≤ 274877906944) ∧ (0 ≤ p.2.2.1 ∧ p.2.2.1 ≤ 274877906944) ∧ (4294967296 ≤ p.2.2.2 ∧ p.2.2.2 ≤ 549755813888) := by
  unfold F14_0 at h
  rw [win_p _ _ _ (by decide)] at h
  simp only [bnd'] at h
  by_cases h1 : 268435456 ≤ p.1 ∧ p.1 ≤ 274877906944
  case neg => rw [decide_eq_false h1] at h; simp at h
  rw [decide_eq_true h1, Bool.not_true, cond_false, win_p _ _ _ (by decide)] at h
  simp only [bnd'] at h
  by_cases h2 : 0 ≤ p.2.1 ∧ p.2.1 ≤ 274877906944
  case neg => rw [decide_eq_false h2] at h; simp at h
  rw [decide_eq_true h2, Bool.not_true, cond_false, win_p _ _ _ (by decide)] at h
  simp only [bnd'] at h
  by_cases h3 : 0 ≤ p.2.2.1 ∧ p.2.2.1 ≤ 274877906944
  case neg => rw [decide_eq_false h3] at h; simp at h
  rw [decide_eq_true h3, Bool.not_true, cond_false, win_p _ _ _ (by decide)] at h
  simp only [bnd'] at h
  by_cases h4 : 4294967296 ≤ p.2.2.2 ∧ p.2.2.2 ≤ 549755813888
  case neg => rw [decide_eq_false h4] at h; simp at h
  exact ⟨h1, h2, h3, h4⟩
theorem speeds_val (s : List P2) (p : Pc) (hs : ∀ q ∈ s, P64 q) (hl : s.length ≤ 100) (h1 : I64 p.1) (h2 : I64 p.2.1) (h3 : I64 p.2.2.1) (h4 : I64 p.2.2.2) (hr : F14_0 p = some 0) (h0 : 0 < s.length) (o : Bool) :
    ∃ o', F13_0 ((s, p), o) = some (spV s p, o') := by
  unfold spV F13_0 E13_0
  simp only [hr, bnd']
  rw [show ((0 : Int) != 0) = false from rfl]
  simp only [cond_false]
  rw [show ((s.length : Int) == 0) = false from beq_eq_false_iff_ne.2 (by omega), cond_false, looped_eq s hs hl, bnd', decide_eq_true (by omega)]
  simp only [chk, bnd', Int.toNat_natCast]
  have lk := limL_ok s hs p h1 h4 s.length 0 (by omega)
  have ok1 := on_ok s hs h0 h2 (2 * s.length) 0 _ lk.1 lk.2
  obtain ⟨f1, g1, q1⟩ := lim_p s hs hl p h1 h4 (farsF s s.length 0) s.length 0 1000 [] (o || orF s s.length 0) (by omega) (by omega) rfl
  refine ⟨o || orF s s.length 0 || limO s p s.length 0 || (onV s p.2.1 (2 * s.length) 0 (limL s p s.length 0)).2 || (backV s p.2.2.1 (2 * s.length) (onV s p.2.1 (2 * s.length) 0 (limL s p s.length 0)).1).2, Eq.trans q1 ?_⟩
  obtain ⟨f1, rfl⟩ : ∃ q, f1 = q + 2 := ⟨f1 - 2, by omega⟩
  rw [pK2]
  unfold B13_0_14 F67_0 E67_0
  have w2 : IntKind.wrap .i64 ((2 : Int) * (s.length : Int)) = ((2 * s.length : Nat) : Int) := by rw [b64 (by omega)]; omega
  have p1 := on_p s hs h0 hl p h2 s (2 * s.length) 0 1000 (limL s p s.length 0) (o || orF s s.length 0 || limO s p s.length 0) (by omega) (by omega) lk.1 lk.2
  simp only [List.nil_append, w2]
  have p1' : K67_0 1000 ((((2 * s.length : Nat) : Int), (0 : Int)), (s, (s, (p, (o || orF s s.length 0 || limO s p s.length 0, (farsF s s.length 0, limL s p s.length 0)))))) = _ := p1
  rw [show fuel67_0 (s, (limL s p s.length 0, (s, (farsF s s.length 0, (p, o || orF s s.length 0 || limO s p s.length 0))))) = 1000 from rfl, p1', bnd']
  unfold F43_1
  simp only [bnd']
  rw [pK3]
  unfold B13_0_18 F68_0 E68_0
  have p2 := fun v o a b => back_p s hs h0 hl p h3 s (2 * s.length) 1000 v o (by omega) (by omega) a b
  simp only [w2, b64 (show -9223372036854775808 ≤ ((2 * s.length : Nat) : Int) - 1 ∧ ((2 * s.length : Nat) : Int) - 1 ≤ 9223372036854775807 by omega)]
  have p2' := p2 (onV s p.2.1 (2 * s.length) 0 (limL s p s.length 0)).1 (o || orF s s.length 0 || limO s p s.length 0 || (onV s p.2.1 (2 * s.length) 0 (limL s p s.length 0)).2) ok1.1 ok1.2
  rw [show ∀ z, fuel68_0 z = 1000 from fun _ => rfl, p2', bnd']
/-! ### Numbers of the ways -/
theorem sqrt_rt {v : Int} (hv : I64 v) (h0 : 0 ≤ v) : F24_0 v = some (rt (v * 4294967296)) := by
  have h32 : I64 4294967296 := by unfold I64; omega
  unfold I64 at hv
  have r1 := rt_ok (n := v * 4294967296) (by omega)
  have hb : rt (v * 4294967296) ≤ 9223372036854775807 := by
    by_cases h : rt (v * 4294967296) ≤ 9223372036854775807
    · exact h
    · have := sq_le (a := 9223372036854775808) (b := rt (v * 4294967296)) (by omega) (by omega)
      have := r1.2.1
      generalize rt (v * 4294967296) * rt (v * 4294967296) = q at *
      omega
  unfold F24_0
  obtain ⟨r, e1, hr, _⟩ := wroot_eq (m := v * 4294967296) (by omega) (by omega)
  simp only [mulw_eq (show I64 v by unfold I64; omega) h32, bnd', e1]
  obtain rfl := rt_uniq hr r1
  rw [b64 (by have := r1.1; omega)]
theorem sqrt_nn {v r : Int} (hv : I64 v) (h : F24_0 v = some r) : 0 ≤ r := by
  by_cases h0 : 0 ≤ v
  · rw [sqrt_rt hv h0] at h
    have := (rt_ok (n := v * 4294967296) (by omega)).1
    cases h; exact this
  · have h32 : I64 4294967296 := by unfold I64; omega
    unfold F24_0 at h
    simp only [mulw_eq hv h32, bnd'] at h
    have : F54_0 (wd (v * 4294967296)) = some 0 := by
      unfold F54_0 E54_0
      rw [decide_eq_true (show (wd (v * 4294967296)).1 < 0 by unfold wd; simp only []; omega), cond_true]
    rw [this, bnd'] at h
    cases h; decide
theorem lm_nn (s : List P2) (hs : ∀ p ∈ s, P64 p) (p : Pc) (h1 : I64 p.1) (h2 : I64 p.2.2.2) (ht : 0 ≤ p.2.2.2) {i : Nat} (hi : i < s.length) : 0 ≤ (lmP s p i).1 ∧ (lmP s p i).1 ≤ p.2.2.2 := by
  have hb := (bnd_eq s hs hi).1
  have e := ((lm_eq s hs p h1 h2 hi).2 false).1
  obtain ⟨x, ov, ix, hx, hk⟩ := limitV hb h1 h2
  have e2 := (hk false).1
  rw [e] at e2
  have e3 : (lmP s p i).1 = x := congrArg Prod.fst (Option.some.inj e2)
  refine ⟨?_, by rw [e3]; exact hx⟩
  rw [e3]
  have e4 := (hk false).1
  unfold F10_0 at e4
  simp only [] at e4
  cases hz : (bndP s i).1 == 0 with
  | true => rw [hz, cond_true] at e4; have := congrArg Prod.fst (Option.some.inj e4); simp only [] at this; omega
  | false =>
    rw [hz] at e4
    simp only [cond_false, div_p h1 hb, bnd'] at e4
    obtain ⟨r, i2, q, _⟩ := sqrtS (divS_i64 p.1 (bndP s i).1)
    have rn := sqrt_nn (divS_i64 _ _) q
    rw [q] at e4
    simp only [bnd'] at e4
    have := congrArg Prod.fst (Option.some.inj e4)
    simp only [] at this
    split at this <;> omega
theorem limL_get (s : List P2) (p : Pc) : ∀ (d i j : Nat), j < d → (limL s p d i).getD j 0 = (lmP s p (i + j)).1 := by
  intro d
  induction d with
  | zero => intro i j h; omega
  | succ d ih =>
    intro i j h
    cases j with
    | zero => rfl
    | succ j =>
      have := ih (i + 1) j (by omega)
      simp only [limL, List.getD_cons_succ]
      rw [this, show i + 1 + j = i + (j + 1) by omega]
/-! ### The states, turn by turn -/
def stF (s : List P2) (rate : Int) (p w : Nat → Nat) (v : List Int) : Nat → List Int
  | 0 => v
  | t + 1 => (turn s rate (p t) (p (t + 1)) (w t) (stF s rate p w v t)).1
theorem onV_st (s : List P2) (rate : Int) (v : List Int) : ∀ (d i : Nat), (onV s rate d i (stF s rate (fun t => t % s.length) (fun t => t % s.length) v i)).1 = stF s rate (fun t => t % s.length) (fun t => t % s.length) v (i + d) := by
  intro d
  induction d with
  | zero => intro i; rfl
  | succ d ih =>
    intro i
    have := ih (i + 1)
    rw [show i + (d + 1) = i + 1 + d by omega, ← this]
    rfl
theorem backV_st (s : List P2) (rate : Int) (v : List Int) : ∀ (d : Nat), d ≤ 2 * s.length → (backV s rate d (stF s rate (fun t => (2 * s.length - t) % s.length) (fun t => (2 * s.length - t - 1) % s.length) v (2 * s.length - d))).1 = stF s rate (fun t => (2 * s.length - t) % s.length) (fun t => (2 * s.length - t - 1) % s.length) v (2 * s.length) := by
  intro d
  induction d with
  | zero => intro _; rfl
  | succ d ih =>
    intro hd
    rw [← ih (by omega)]
    have e : 2 * s.length - d = (2 * s.length - (d + 1)) + 1 := by omega
    rw [e]
    show (backV s rate d (turn s rate ((d + 1) % s.length) (d % s.length) (d % s.length) _).1).1 = (backV s rate d (turn s rate ((2 * s.length - (2 * s.length - (d + 1))) % s.length) ((2 * s.length - ((2 * s.length - (d + 1)) + 1)) % s.length) ((2 * s.length - (2 * s.length - (d + 1)) - 1) % s.length) _).1).1
    rw [show 2 * s.length - (2 * s.length - (d + 1)) = d + 1 by omega, show 2 * s.length - ((2 * s.length - (d + 1)) + 1) = d by omega, show d + 1 - 1 = d by omega]
/-- A turn as a number. -/
theorem turn_get (s : List P2) (rate : Int) (a b w : Nat) (v : List Int) (k : Nat) (hk : k < v.length) (hb : b < v.length) :
    (turn s rate a b w v).1.getD k 0 = if k = b then mn (v.getD b 0) (rp (v.getD a 0) rate (fo s w).1).1 else v.getD k 0 := by
  unfold turn mn
  simp only [List.getD]
  rw [List.getElem?_set]
  by_cases e : b = k
  · subst e
    rw [if_pos rfl, if_pos rfl, if_pos hb]; rfl
  · rw [if_neg e, if_neg (fun h => e h.symm)]
theorem turn_len (s : List P2) (rate : Int) (a b w : Nat) (v : List Int) : (turn s rate a b w v).1.length = v.length := by unfold turn; simp
theorem stF_len (s : List P2) (rate : Int) (p w : Nat → Nat) (v : List Int) : ∀ t, (stF s rate p w v t).length = v.length := by
  intro t
  induction t with
  | zero => rfl
  | succ t ih => show (turn _ _ _ _ _ _).1.length = _; rw [turn_len, ih]
theorem stF_mono (s : List P2) (rate : Int) (p w : Nat → Nat) (v : List Int) (k : Nat) (hk : k < v.length) (hp : ∀ t, p t < v.length) : ∀ t, (stF s rate p w v t).getD k 0 ≤ v.getD k 0 := by
  intro t
  induction t with
  | zero => exact Int.le_refl _
  | succ t ih =>
    show (turn _ _ _ _ _ _).1.getD k 0 ≤ _
    rw [turn_get _ _ _ _ _ _ _ (by rw [stF_len]; exact hk) (by rw [stF_len]; exact hp _)]
    split
    · rename_i e
      subst e
      exact Int.le_trans (mn_l _ _) ih
    · exact ih
theorem far_b {s : List P2} (hs : ∀ q ∈ s, -2199023255552 ≤ q.1 ∧ q.1 ≤ 2199023255552 ∧ -2199023255552 ≤ q.2 ∧ q.2 ≤ 2199023255552) {i : Nat} (hi : i < s.length) : 0 ≤ (fo s i).1 ∧ (fo s i).1 ≤ 8796093022208 := by
  have h64 : ∀ q ∈ s, P64 q := fun q hq => by have := hs q hq; exact ⟨by unfold I64; omega, by unfold I64; omega⟩
  have ha : -2199023255552 ≤ (s.getD i (0, 0)).1 ∧ (s.getD i (0, 0)).1 ≤ 2199023255552 ∧ -2199023255552 ≤ (s.getD i (0, 0)).2 ∧ (s.getD i (0, 0)).2 ≤ 2199023255552 := by rw [← getP hi]; exact hs _ (List.getElem_mem _)
  have hb : -2199023255552 ≤ (s.getD (nxt s.length i) (0, 0)).1 ∧ (s.getD (nxt s.length i) (0, 0)).1 ≤ 2199023255552 ∧ -2199023255552 ≤ (s.getD (nxt s.length i) (0, 0)).2 ∧ (s.getD (nxt s.length i) (0, 0)).2 ≤ 2199023255552 := by rw [← getP (nxt_lt hi)]; exact hs _ (List.getElem_mem _)
  unfold fo
  generalize s.getD i (0, 0) = a at *
  generalize s.getD (nxt s.length i) (0, 0) = b at *
  have pa : P64 a := ⟨by unfold I64; omega, by unfold I64; omega⟩
  have pb : P64 b := ⟨by unfold I64; omega, by unfold I64; omega⟩
  have e := ((far_eq pa pb).2 false).1
  unfold F28_0 F27_0 at e
  simp only [sub_p pb.1 pa.1, sub_p pb.2 pa.2, bnd'] at e
  rw [sat_in (show I64 (b.1 - a.1) by unfold I64; omega), sat_in (show I64 (b.2 - a.2) by unfold I64; omega)] at e
  obtain ⟨res, e1, h1⟩ := len_loop [b.1 - a.1, b.2 - a.2] (by simp) (by intro x hx; simp at hx; rcases hx with rfl | rfl <;> (unfold I64; omega)) (false || ovf (b.1 - a.1) || ovf (b.2 - a.2)) 2 0 1000 0 rfl (by omega) (by decide) (by decide)
  have es : (0 : Int) + sumSq ([b.1 - a.1, b.2 - a.2].drop 0) = (b.1 - a.1) * (b.1 - a.1) + (b.2 - a.2) * (b.2 - a.2) := by show 0 + ((b.1 - a.1) * (b.1 - a.1) + ((b.2 - a.2) * (b.2 - a.2) + 0)) = _; omega
  rw [es] at h1
  have e' : F48_0 ([b.1 - a.1, b.2 - a.2], false || ovf (b.1 - a.1) || ovf (b.2 - a.2)) = some res := e1
  unfold F22_0 at e
  simp only [] at e
  rw [e', bnd'] at e
  have e2 : (farP a b).1 = res.1 := by
    have : res.1 = (farP a b).1 := congrArg Prod.fst (Option.some.inj e)
    exact this.symm
  rw [e2]
  have sq : ∀ x : Int, -4398046511104 ≤ x → x ≤ 4398046511104 → 0 ≤ x * x ∧ x * x ≤ 19342813113834066795298816 := by
    intro x l u
    have e : x * x = (if x < 0 then -x else x) * (if x < 0 then -x else x) := by
      split
      · rw [Int.neg_mul_neg]
      · rfl
    rw [e]
    have h1 : 0 ≤ (if x < 0 then -x else x) := by split <;> omega
    have h2 : (if x < 0 then -x else x) ≤ 4398046511104 := by split <;> omega
    exact ⟨Int.mul_nonneg h1 h1, sq_le h1 h2⟩
  have q1 := sq (b.1 - a.1) (by omega) (by omega)
  have q2 := sq (b.2 - a.2) (by omega) (by omega)
  rcases h1 with ⟨_, r, hr, er⟩ | ⟨hbig, _⟩
  · have rb : r ≤ 8796093022208 := by
      by_cases g : r ≤ 8796093022208
      · exact g
      · have t := sq_le (a := 8796093022208) (b := r) (by omega) (by omega)
        have := hr.2.1
        generalize (b.1 - a.1) * (b.1 - a.1) = X at *
        generalize (b.2 - a.2) * (b.2 - a.2) = Y at *
        generalize r * r = R at *
        omega
    have r0 := hr.1
    rw [er, if_neg (by omega)]
    exact ⟨r0, rb⟩
  · generalize (b.1 - a.1) * (b.1 - a.1) = X at *
    generalize (b.2 - a.2) * (b.2 - a.2) = Y at *
    omega
theorem mulR_b {a b A B : Int} (a0 : 0 ≤ a) (ha : a ≤ A) (b0 : 0 ≤ b) (hb : b ≤ B) : 0 ≤ mulR a b ∧ mulR a b ≤ A * B / 4294967296 + 1 := by
  have h := prod_le (a := a) (b := b) (A := A) (B := B) a0 ha b0 hb
  unfold mulR rhe
  generalize a * b = X at *
  generalize A * B = Y at *
  split <;> omega
theorem reach_go {y r w : Int} (hy : 0 ≤ y) (hy2 : y ≤ 549755813888) (hr : 0 ≤ r) (hr2 : r ≤ 274877906944) (hw : 0 ≤ w) (hw2 : w ≤ 8796093022208) : (rp y r w).1 = go y (mulR (2 * r) w) := by
  have m1 := mulR_b hy hy2 hy hy2
  have m2 := mulR_b (a := 2 * r) (b := w) (A := 549755813888) (B := 8796093022208) (by omega) (by omega) hw hw2
  have e := ((rp_eq (v := y) (r := r) (w := w) (by unfold I64; omega) (by unfold I64; omega) (by unfold I64; omega)).2 false).1
  unfold F42_0 at e
  have i1 : I64 (r + r) := by unfold I64; omega
  have e2r : r + r = 2 * r := by omega
  simp only [mul_p (show I64 y by unfold I64; omega) (show I64 y by unfold I64; omega), add_p (show I64 r by unfold I64; omega) (show I64 r by unfold I64; omega), bnd', e2r, sat_in (show I64 (2 * r) by unfold I64; omega), mul_p (show I64 (2 * r) by unfold I64; omega) (show I64 w by unfold I64; omega), mulS, sat_in (show I64 (mulR y y) by unfold I64; omega), sat_in (show I64 (mulR (2 * r) w) by unfold I64; omega), add_p (show I64 (mulR y y) by unfold I64; omega) (show I64 (mulR (2 * r) w) by unfold I64; omega), sat_in (show I64 (mulR y y + mulR (2 * r) w) by unfold I64; omega), sqrt_rt (show I64 (mulR y y + mulR (2 * r) w) by unfold I64; omega) (by omega)] at e
  exact (congrArg Prod.fst (Option.some.inj e)).symm
end Go.Proofs.Ytbmbnopgekbppaa.Ev
