/- A loop's speeds: the law. -/
import Derived.Test.YtbmbnopgekbppaaMProfSpeeds3
set_option linter.unusedVariables false
set_option linter.unusedSimpArgs false
namespace Go.Proofs.Ytbmbnopgekbppaa.Ev
open Go

theorem win_p (x lo hi : Int) (h : lo ≤ hi) : F44_0 (x, (lo, hi)) = some (decide (lo ≤ x ∧ x ≤ hi)) := by
  unfold F44_0 F45_0
  simp only []
  by_cases h1 : x < lo
  · rw [decide_eq_true h1, cond_true, bnd', decide_eq_false (by omega), show (lo == x) = false from beq_eq_false_iff_ne.2 (by omega)]
  · rw [decide_eq_false h1, cond_false]
    by_cases h2 : x > hi
    · rw [decide_eq_true h2, cond_true, bnd', decide_eq_false (by omega), show (hi == x) = false from beq_eq_false_iff_ne.2 (by omega)]
    · rw [decide_eq_false h2, cond_false, bnd', decide_eq_true (by omega)]; simp
theorem win_r (x lo hi : Int) : F46_0 (x, (lo, hi)) = some (decide (lo ≤ x ∧ x ≤ hi)) := by
  unfold F46_0
  by_cases h : lo ≤ x <;> simp [h]
theorem right_same (p : Pc) : ∃ e, F14_0 p = some e ∧ F15_0 p = some e := by
  unfold F14_0 F15_0
  rw [win_p _ _ _ (by decide), win_r]
  simp only [bnd']
  cases decide (268435456 ≤ p.1 ∧ p.1 ≤ 274877906944)
  · exact ⟨40, rfl, rfl⟩
  simp only [Bool.not_true, cond_false, cond_true]
  rw [win_p _ _ _ (by decide), win_r]
  simp only [bnd']
  cases decide (0 ≤ p.2.1 ∧ p.2.1 ≤ 274877906944)
  · exact ⟨40, rfl, rfl⟩
  simp only [Bool.not_true, cond_false, cond_true]
  rw [win_p _ _ _ (by decide), win_r]
  simp only [bnd']
  cases decide (0 ≤ p.2.2.1 ∧ p.2.2.1 ≤ 274877906944)
  · exact ⟨40, rfl, rfl⟩
  simp only [Bool.not_true, cond_false, cond_true]
  rw [win_p _ _ _ (by decide), win_r]
  simp only [bnd']
  cases decide (4294967296 ≤ p.2.2.2 ∧ p.2.2.2 ≤ 549755813888)
  · exact ⟨40, rfl, rfl⟩
  · exact ⟨0, rfl, rfl⟩
theorem orF_iff (s : List P2) : ∀ (d i : Nat), orF s d i = true ↔ ∃ j, i ≤ j ∧ j < i + d ∧ (fo s j).2 = true := by
  intro d
  induction d with
  | zero => intro i; simp [orF]; intro j h1 h2; omega
  | succ d ih =>
    intro i
    simp only [orF, Bool.or_eq_true, ih]
    constructor
    · rintro (h | ⟨j, a, b, c⟩)
      · exact ⟨i, by omega, by omega, h⟩
      · exact ⟨j, by omega, by omega, c⟩
    · rintro ⟨j, a, b, c⟩
      by_cases e : j = i
      · subst e; exact .inl c
      · exact .inr ⟨j, by omega, by omega, c⟩
theorem fof_iff (s : List P2) : ∀ (d i : Nat), fof s d i = true ↔ ∃ j, i ≤ j ∧ j < i + d ∧ (fo s (j % s.length)).2 = true := by
  intro d
  induction d with
  | zero => intro i; simp [fof]; intro j h1 h2; omega
  | succ d ih =>
    intro i
    simp only [fof, Bool.or_eq_true, ih]
    constructor
    · rintro (h | ⟨j, a, b, c⟩)
      · exact ⟨i, by omega, by omega, h⟩
      · exact ⟨j, by omega, by omega, c⟩
    · rintro ⟨j, a, b, c⟩
      by_cases e : j = i
      · subst e; exact .inl c
      · exact .inr ⟨j, by omega, by omega, c⟩
theorem fob_imp (s : List P2) (h0 : 0 < s.length) : ∀ (d : Nat), fob s d = true → orF s s.length 0 = true := by
  intro d
  induction d with
  | zero => intro h; cases h
  | succ d ih =>
    intro h
    simp only [fob, Bool.or_eq_true] at h
    rcases h with h | h
    · exact (orF_iff s s.length 0).2 ⟨d % s.length, by omega, by have := Nat.mod_lt d h0; omega, h⟩
    · exact ih h
theorem fof_orF (s : List P2) (h0 : 0 < s.length) : fof s (2 * s.length) 0 = orF s s.length 0 := by
  rw [Bool.eq_iff_iff, orF_iff, fof_iff]
  constructor
  · rintro ⟨j, _, _, c⟩
    exact ⟨j % s.length, by omega, by have := Nat.mod_lt j h0; omega, c⟩
  · rintro ⟨j, _, b, c⟩
    exact ⟨j, by omega, by omega, by rw [Nat.mod_eq_of_lt (by omega)]; exact c⟩
theorem on_ok (s : List P2) (hs : ∀ p ∈ s, P64 p) (h0 : 0 < s.length) {rate : Int} (hr : I64 rate) : ∀ (d i : Nat) (v : List Int), v.length = s.length → (∀ x ∈ v, I64 x) → (onV s rate d i v).1.length = s.length ∧ ∀ x ∈ (onV s rate d i v).1, I64 x := by
  intro d
  induction d with
  | zero => intro i v h1 h2; exact ⟨h1, h2⟩
  | succ d ih =>
    intro i v h1 h2
    have ha : i % s.length < s.length := Nat.mod_lt _ h0
    have hb : (i + 1) % s.length < s.length := Nat.mod_lt _ h0
    have tk := turn_ok hs hr h2 (show i % s.length < v.length by omega) (show (i + 1) % s.length < v.length by omega) ha
    exact ih (i + 1) _ (tk.1.trans h1) tk.2
theorem back_ok (s : List P2) (hs : ∀ p ∈ s, P64 p) (h0 : 0 < s.length) {rate : Int} (hr : I64 rate) : ∀ (d : Nat) (v : List Int), v.length = s.length → (∀ x ∈ v, I64 x) → (backV s rate d v).1.length = s.length ∧ ∀ x ∈ (backV s rate d v).1, I64 x := by
  intro d
  induction d with
  | zero => intro v h1 h2; exact ⟨h1, h2⟩
  | succ d ih =>
    intro v h1 h2
    have ha : d % s.length < s.length := Nat.mod_lt _ h0
    have hb : (d + 1) % s.length < s.length := Nat.mod_lt _ h0
    have tk := turn_ok hs hr h2 (show (d + 1) % s.length < v.length by omega) (show d % s.length < v.length by omega) ha
    exact ih _ (tk.1.trans h1) tk.2
theorem pK2 (n : Nat) : (K13_0 (n + 1)).2.1 = B13_0_14 (K13_0 n) := rfl
theorem pK3 (n : Nat) : (K13_0 (n + 1)).2.2 = B13_0_18 (K13_0 n) := rfl
theorem speeds_same (s : List P2) (p : Pc) (hs : ∀ q ∈ s, P64 q) (hl : s.length ≤ 100) (h1 : I64 p.1) (h2 : I64 p.2.1) (h3 : I64 p.2.2.1) (h4 : I64 p.2.2.2) (o : Bool) :
    ∃ v o', (∀ x ∈ v, I64 x) ∧ v.length ≤ 100 ∧ F13_0 ((s, p), o) = some (v, o') ∧ F18_0 ((s, p), o) = some (v, o') := by
  obtain ⟨e, e1, e2⟩ := right_same p
  unfold F13_0 E13_0 F18_0 E18_0
  simp only [e1, e2, bnd']
  by_cases he : e = 0
  case neg =>
    rw [show (e != 0) = true from bne_iff_ne.2 he]
    exact ⟨[], o, by simp, by simp, rfl, rfl⟩
  subst he
  rw [show ((0 : Int) != 0) = false from rfl]
  simp only [cond_false]
  by_cases hz : s.length = 0
  · obtain rfl := List.eq_nil_of_length_eq_zero hz
    exact ⟨[], o, by simp, by simp, rfl, rfl⟩
  have h0 : 0 < s.length := by omega
  rw [show ((s.length : Int) == 0) = false from beq_eq_false_iff_ne.2 (by omega), cond_false, looped_eq s hs hl, bnd', decide_eq_true (by omega)]
  simp only [chk, bnd', Int.toNat_natCast]
  have lk := limL_ok s hs p h1 h4 s.length 0 (by omega)
  have ok1 := on_ok s hs h0 h2 (2 * s.length) 0 _ lk.1 lk.2
  have ok2 := back_ok s hs h0 h3 (2 * s.length) _ ok1.1 ok1.2
  obtain ⟨f1, g1, q1⟩ := lim_p s hs hl p h1 h4 (farsF s s.length 0) s.length 0 1000 [] (o || orF s s.length 0) (by omega) (by omega) rfl
  obtain ⟨f2, g2, q2⟩ := lim_r s hs hl p h1 h4 s.length 0 1000 [] o (by omega) (by omega) rfl
  obtain ⟨f3, g3, q3⟩ := on_r s hs h0 hl p h2 (2 * s.length) 0 f2 _ (o || limO s p s.length 0) (by omega) (by omega) lk.1 lk.2
  have q4 := back_r s hs h0 hl p h3 (2 * s.length) f3 _ (o || limO s p s.length 0 || ((onV s p.2.1 (2 * s.length) 0 (limL s p s.length 0)).2 || fof s (2 * s.length) 0)) (by omega) (by omega) ok1.1 ok1.2
  refine ⟨_, _, ok2.2, by rw [ok2.1]; exact hl, ?_, Eq.trans q2 (Eq.trans q3 q4)⟩
  refine Eq.trans q1 ?_
  obtain ⟨f1, rfl⟩ : ∃ q, f1 = q + 2 := ⟨f1 - 2, by omega⟩
  rw [pK2]
  unfold B13_0_14 F67_0 E67_0
  have w2 : IntKind.wrap .i64 ((2 : Int) * (s.length : Int)) = ((2 * s.length : Nat) : Int) := by rw [b64 (by omega)]; omega
  have p1 := on_p s hs h0 hl p h2 s (2 * s.length) 0 1000 (limL s p s.length 0) (o || orF s s.length 0 || limO s p s.length 0) (by omega) (by omega) lk.1 lk.2
  simp only [List.nil_append, w2]
  have p1' : K67_0 1000 ((((2 * s.length : Nat) : Int), (0 : Int)), (s, (s, (p, (o || orF s s.length 0 || limO s p s.length 0, (farsF s s.length 0, limL s p s.length 0)))))) = _ := p1
  rw [show fuel67_0 (s, (limL s p s.length 0, (s, (farsF s s.length 0, (p, o || orF s s.length 0 || limO s p s.length 0))))) = 1000 from rfl, p1', bnd']
  unfold F43_1
  simp only [bnd']
  rw [pK3]
  unfold B13_0_18 F68_0 E68_0
  have p2 := fun v o a b => back_p s hs h0 hl p h3 s (2 * s.length) 1000 v o (by omega) (by omega) a b
  simp only [w2, b64 (show -9223372036854775808 ≤ ((2 * s.length : Nat) : Int) - 1 ∧ ((2 * s.length : Nat) : Int) - 1 ≤ 9223372036854775807 by omega)]
  have p2' := p2 (onV s p.2.1 (2 * s.length) 0 (limL s p s.length 0)).1 (o || orF s s.length 0 || limO s p s.length 0 || (onV s p.2.1 (2 * s.length) 0 (limL s p s.length 0)).2) ok1.1 ok1.2
  rw [show ∀ z, fuel68_0 z = 1000 from fun _ => rfl, p2', bnd']
  refine some_eq (pair_eq rfl ?_)
  have hf := fof_orF s h0
  have hb := fob_imp s h0 (2 * s.length)
  rw [hf]
  cases ho : orF s s.length 0 <;> cases hq : fob s (2 * s.length) <;> (try (have hh := hb hq; rw [ho] at hh; cases hh)) <;> cases o <;> cases limO s p s.length 0 <;> cases (onV s p.2.1 (2 * s.length) 0 (limL s p s.length 0)).2 <;> cases (backV s p.2.2.1 (2 * s.length) (onV s p.2.1 (2 * s.length) 0 (limL s p s.length 0)).1).2 <;> rfl
theorem num_loop (v : List Int) (hl : v.length ≤ 100) : ∀ (d i f : Nat), i + d = v.length → d < f → K17_0 f (v, (v, (i : Int))) = some true := by
  intro d
  induction d with
  | zero =>
    intro i f hi hf
    obtain ⟨f, rfl⟩ : ∃ q, f = q + 1 := ⟨f - 1, by omega⟩
    show B17_0_4 (K17_0 f) _ = _
    unfold B17_0_4
    rw [decide_eq_false (by simp only []; omega), cond_false]
  | succ d ih =>
    intro i f hi hf
    obtain ⟨f, rfl⟩ : ∃ q, f = q + 1 := ⟨f - 1, by omega⟩
    have hil : i < v.length := by omega
    have b1' : ∀ x : Int, (x != x) = false := fun x => by simp
    show B17_0_4 (K17_0 f) _ = _
    unfold B17_0_4
    rw [decide_eq_true (by simp only []; omega), cond_true]
    simp only [prd hil, bnd', b1', cond_false, b64 (show -9223372036854775808 ≤ (i : Int) + 1 ∧ (i : Int) + 1 ≤ 9223372036854775807 by omega)]
    have := ih (i + 1) f (by omega) (by omega)
    rw [show ((i + 1 : Nat) : Int) = (i : Int) + 1 by omega] at this
    exact this
theorem law4_0 (v) (h : Dom4_0 v) : F4_0 v = some true := by
  obtain ⟨s, p⟩ := v
  unfold F4_0
  simp only []
  by_cases h1 : (s.length : Int) > 100
  · rw [decide_eq_true h1]; rfl
  rw [decide_eq_false h1, cond_false]
  obtain ⟨⟨_, hs⟩, h2, h3, h4, h5⟩ := h
  have hs' : ∀ q ∈ s, P64 q := fun x hx => ⟨pwf64 (hs x hx).1, pwf64 (hs x hx).2⟩
  obtain ⟨v, o, hv, hvl, p1, q1⟩ := speeds_same s p hs' (by omega) (pwf64 h2) (pwf64 h3) (pwf64 h4) (pwf64 h5) false
  obtain ⟨e, e1, e2⟩ := right_same p
  obtain ⟨r, o2, p2, q2⟩ := lap_same s v hs' hv (by omega) o
  have b1' : ∀ x : Int, (x != x) = false := fun x => by simp
  have b2' : ∀ x : Int, (x == x) = true := fun x => by simp
  have b3' : ∀ x : Bool, (x == x) = true := fun x => by simp
  have nm : F17_0 (v, v) = some true := by
    unfold F17_0 E17_0
    rw [b1', cond_false]
    exact num_loop v hvl v.length 0 1000 (by omega) (by omega)
  unfold F16_0
  simp only [p1, q1, e1, e2, bnd', b1', cond_false, nm, Bool.not_true, b3', p2, q2, b2', cond_true, awake52]
end Go.Proofs.Ytbmbnopgekbppaa.Ev
