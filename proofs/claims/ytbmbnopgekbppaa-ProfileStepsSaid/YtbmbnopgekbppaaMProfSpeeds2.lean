/- A loop's speeds: the loops. -/
import Derived.Test.YtbmbnopgekbppaaMProfSpeeds
set_option linter.unusedVariables false
set_option linter.unusedSimpArgs false
namespace Go.Proofs.Ytbmbnopgekbppaa.Ev
open Go

abbrev Pc : Type := Int × Int × Int × Int
def rp (v r w : Int) : Int × Bool := (F42_0 ((v, (r, w)), false)).getD (0, false)
theorem rp_eq {v r w : Int} (hv : I64 v) (hr : I64 r) (hw : I64 w) : I64 (rp v r w).1 ∧ ∀ o, F42_0 ((v, (r, w)), o) = some ((rp v r w).1, o || (rp v r w).2) ∧ F47_0 ((v, (r, w)), o) = some ((rp v r w).1, o || (rp v r w).2) := by
  obtain ⟨x, ov, ix, hk⟩ := reachV hv hr hw
  have e : rp v r w = (x, ov) := by unfold rp; rw [(hk false).1]; simp
  rw [e]; exact ⟨ix, hk⟩
/-- One turn: from sample a to sample b, with a rate. -/
def turn (s : List P2) (rate : Int) (a b w : Nat) (v : List Int) : List Int × Bool :=
  (v.set b (if (rp (v.getD a 0) rate (fo s w).1).1 < v.getD b 0 then (rp (v.getD a 0) rate (fo s w).1).1 else v.getD b 0), (rp (v.getD a 0) rate (fo s w).1).2)
theorem turn_ok {s : List P2} (hs : ∀ p ∈ s, P64 p) {rate : Int} (hr : I64 rate) {a b w : Nat} {v : List Int} (hv : ∀ x ∈ v, I64 x) (ha : a < v.length) (hb : b < v.length) (hw : w < s.length) : (turn s rate a b w v).1.length = v.length ∧ ∀ x ∈ (turn s rate a b w v).1, I64 x := by
  unfold turn
  refine ⟨by simp, fun x hx => ?_⟩
  have h1 := (rp_eq (vat64 hv ha) hr (far_eq (at64 hs hw) (at64 hs (nxt_lt hw))).1).1
  rcases List.mem_or_eq_of_mem_set hx with h | h
  · exact hv x h
  · rw [h]; split
    · exact h1
    · exact vat64 hv hb
theorem next_mod {n i : Nat} : nxt n (i % n) = (i + 1) % n := by unfold nxt; rw [Nat.mod_add_mod]
theorem round14_eq (s : List P2) (hs : ∀ p ∈ s, P64 p) (p : Pc) (hr : I64 p.2.1) {a b : Nat} (v : List Int) (hv : ∀ x ∈ v, I64 x) (hl : v.length = s.length) (ha : a < s.length) (hb : b < s.length) (o : Bool) (s' : List P2) :
    F13326_y0 (((a : Int), (b : Int)), (v, (s', (farsF s s.length 0, (p, o))))) = some (true, (s', (p, (o || (turn s p.2.1 a b a v).2, (farsF s s.length 0, (turn s p.2.1 a b a v).1))))) := by
  have fg := farsF_get s s.length 0 a ha
  rw [Nat.zero_add] at fg
  unfold F13326_y0 turn
  simp only [pidx (show b < v.length by omega), pidx (show a < v.length by omega), farsF_len, pidx ha, fg, List.getElem?_eq_getElem (show b < v.length by omega), List.getElem?_eq_getElem (show a < v.length by omega), getV (show b < v.length by omega), getV (show a < v.length by omega), bnd', ((rp_eq (vat64 hv (show a < v.length by omega)) hr (show I64 (fo s a).1 from (far_eq (at64 hs ha) (at64 hs (nxt_lt ha))).1)).2 o).1]
theorem round18_eq (s : List P2) (hs : ∀ p ∈ s, P64 p) (p : Pc) (hr : I64 p.2.2.1) {a b : Nat} (v : List Int) (hv : ∀ x ∈ v, I64 x) (hl : v.length = s.length) (ha : a < s.length) (hb : b < s.length) (o : Bool) (s' : List P2) :
    F13330_y0 (((a : Int), (b : Int)), (v, (s', (farsF s s.length 0, (p, o))))) = some (true, (s', (p, (o || (turn s p.2.2.1 b a a v).2, (farsF s s.length 0, (turn s p.2.2.1 b a a v).1))))) := by
  have fg := farsF_get s s.length 0 a ha
  rw [Nat.zero_add] at fg
  unfold F13330_y0 turn
  simp only [pidx (show b < v.length by omega), pidx (show a < v.length by omega), farsF_len, pidx ha, fg, List.getElem?_eq_getElem (show b < v.length by omega), List.getElem?_eq_getElem (show a < v.length by omega), getV (show b < v.length by omega), getV (show a < v.length by omega), bnd', ((rp_eq (vat64 hv (show b < v.length by omega)) hr (show I64 (fo s a).1 from (far_eq (at64 hs ha) (at64 hs (nxt_lt ha))).1)).2 o).1]
/-- Twice round, on. -/
def onV (s : List P2) (rate : Int) : Nat → Nat → List Int → List Int × Bool
  | 0, _, v => (v, false)
  | d + 1, i, v => ((onV s rate d (i + 1) (turn s rate (i % s.length) ((i + 1) % s.length) (i % s.length) v).1).1, (turn s rate (i % s.length) ((i + 1) % s.length) (i % s.length) v).2 || (onV s rate d (i + 1) (turn s rate (i % s.length) ((i + 1) % s.length) (i % s.length) v).1).2)
theorem on_p (s : List P2) (hs : ∀ p ∈ s, P64 p) (h0 : 0 < s.length) (hl : s.length ≤ 100) (p : Pc) (hr : I64 p.2.1) (s' : List P2) : ∀ (d i f : Nat) (v : List Int) (o : Bool), i + d = 2 * s.length → d < f → v.length = s.length → (∀ x ∈ v, I64 x) →
    K67_0 f ((((2 * s.length : Nat) : Int), (i : Int)), (s, (s', (p, (o, (farsF s s.length 0, v)))))) = some (s, (s', (p, (o || (onV s p.2.1 d i v).2, (farsF s s.length 0, (onV s p.2.1 d i v).1))))) := by
  intro d
  induction d with
  | zero =>
    intro i f v o hi hf hv1 hv2
    obtain ⟨f, rfl⟩ : ∃ q, f = q + 1 := ⟨f - 1, by omega⟩
    show B67_0_1 (K67_0 f) _ = _
    unfold B67_0_1
    rw [decide_eq_false (by simp only []; omega), cond_false]
    simp [onV]
  | succ d ih =>
    intro i f v o hi hf hv1 hv2
    obtain ⟨f, rfl⟩ : ∃ q, f = q + 1 := ⟨f - 1, by omega⟩
    have ha : i % s.length < s.length := Nat.mod_lt _ h0
    have hb : (i + 1) % s.length < s.length := Nat.mod_lt _ h0
    have tm : Int.tmod (i : Int) (s.length : Int) = ((i % s.length : Nat) : Int) := by rw [tmod_nn (by omega), ← Int.natCast_emod]
    show B67_0_1 (K67_0 f) _ = _
    unfold B67_0_1
    rw [decide_eq_true (by simp only []; omega), cond_true]
    simp only [show ((s.length : Int) != 0) = true from bne_iff_ne.2 (by omega), chk, bnd', tm, next_eq s _ ha hl, next_mod, round14_eq s hs p hr v hv2 hv1 ha hb, Bool.not_true, cond_false, b64 (show -9223372036854775808 ≤ (i : Int) + 1 ∧ (i : Int) + 1 ≤ 9223372036854775807 by omega)]
    have tk := turn_ok hs hr hv2 (show i % s.length < v.length by omega) (show (i + 1) % s.length < v.length by omega) ha
    have := ih (i + 1) f _ (o || (turn s p.2.1 (i % s.length) ((i + 1) % s.length) (i % s.length) v).2) (by omega) (by omega) (tk.1.trans hv1) tk.2
    rw [show ((i + 1 : Nat) : Int) = (i : Int) + 1 by omega] at this
    simp only [onV, Bool.or_assoc] at this ⊢
    exact this
/-- Twice round, back. -/
def backV (s : List P2) (rate : Int) : Nat → List Int → List Int × Bool
  | 0, v => (v, false)
  | d + 1, v => ((backV s rate d (turn s rate ((d + 1) % s.length) (d % s.length) (d % s.length) v).1).1, (turn s rate ((d + 1) % s.length) (d % s.length) (d % s.length) v).2 || (backV s rate d (turn s rate ((d + 1) % s.length) (d % s.length) (d % s.length) v).1).2)
theorem back_p (s : List P2) (hs : ∀ p ∈ s, P64 p) (h0 : 0 < s.length) (hl : s.length ≤ 100) (p : Pc) (hr : I64 p.2.2.1) (s' : List P2) : ∀ (d f : Nat) (v : List Int) (o : Bool), d ≤ 200 → d < f → v.length = s.length → (∀ x ∈ v, I64 x) →
    K68_0 f ((d : Int) - 1, (s, (s', (p, (o, (farsF s s.length 0, v)))))) = some (s, (s', (p, (o || (backV s p.2.2.1 d v).2, (farsF s s.length 0, (backV s p.2.2.1 d v).1))))) := by
  intro d
  induction d with
  | zero =>
    intro f v o hi hf hv1 hv2
    obtain ⟨f, rfl⟩ : ∃ q, f = q + 1 := ⟨f - 1, by omega⟩
    show B68_0_1 (K68_0 f) _ = _
    unfold B68_0_1
    rw [decide_eq_false (by simp only []; omega), cond_false]
    simp [backV]
  | succ d ih =>
    intro f v o hi hf hv1 hv2
    obtain ⟨f, rfl⟩ : ∃ q, f = q + 1 := ⟨f - 1, by omega⟩
    have ha : d % s.length < s.length := Nat.mod_lt _ h0
    have hb : (d + 1) % s.length < s.length := Nat.mod_lt _ h0
    have e1 : ((d + 1 : Nat) : Int) - 1 = (d : Int) := by omega
    have tm : Int.tmod (d : Int) (s.length : Int) = ((d % s.length : Nat) : Int) := by rw [tmod_nn (by omega), ← Int.natCast_emod]
    rw [e1]
    show B68_0_1 (K68_0 f) _ = _
    unfold B68_0_1
    rw [decide_eq_true (by simp only []; omega), cond_true]
    simp only [show ((s.length : Int) != 0) = true from bne_iff_ne.2 (by omega), chk, bnd', tm, next_eq s _ ha hl, next_mod, round18_eq s hs p hr v hv2 hv1 ha hb, Bool.not_true, cond_false, b64 (show -9223372036854775808 ≤ (d : Int) - 1 ∧ (d : Int) - 1 ≤ 9223372036854775807 by omega)]
    have tk := turn_ok hs hr hv2 (show (d + 1) % s.length < v.length by omega) (show d % s.length < v.length by omega) ha
    have := ih f _ (o || (turn s p.2.2.1 ((d + 1) % s.length) (d % s.length) (d % s.length) v).2) (by omega) (by omega) (tk.1.trans hv1) tk.2
    simp only [backV, Bool.or_assoc] at this ⊢
    exact this
/-! ### The document's -/
def fof (s : List P2) : Nat → Nat → Bool
  | 0, _ => false
  | d + 1, i => (fo s (i % s.length)).2 || fof s d (i + 1)
def fob (s : List P2) : Nat → Bool
  | 0 => false
  | d + 1 => (fo s (d % s.length)).2 || fob s d
theorem far_fo (s : List P2) (hs : ∀ p ∈ s, P64 p) {a : Nat} (ha : a < s.length) (o : Bool) : F33_0 ((s.getD a (0, 0), s.getD (nxt s.length a) (0, 0)), o) = some ((fo s a).1, o || (fo s a).2) := ((far_eq (at64 hs ha) (at64 hs (nxt_lt ha))).2 o).2
theorem on_r (s : List P2) (hs : ∀ p ∈ s, P64 p) (h0 : 0 < s.length) (hl : s.length ≤ 100) (p : Pc) (hr : I64 p.2.1) : ∀ (d i f : Nat) (v : List Int) (o : Bool), i + d = 2 * s.length → d + 201 < f → v.length = s.length → (∀ x ∈ v, I64 x) →
    ∃ f', 200 < f' ∧ (K18_0 f).2.1 ((s, ((s.length : Int), (i : Int))), (v, (p, o))) = (K18_0 f').2.2 ((s, ((s.length : Int), ((2 * s.length : Nat) : Int) - 1)), ((onV s p.2.1 d i v).1, (p, o || ((onV s p.2.1 d i v).2 || fof s d i)))) := by
  intro d
  induction d with
  | zero =>
    intro i f v o hi hf hv1 hv2
    obtain ⟨f, rfl⟩ : ∃ q, f = q + 1 := ⟨f - 1, by omega⟩
    refine ⟨f, by omega, ?_⟩
    show B18_0_10 (K18_0 f) _ = _
    unfold B18_0_10
    simp only [b64 (show -9223372036854775808 ≤ (2 : Int) * (s.length : Int) ∧ (2 : Int) * (s.length : Int) ≤ 9223372036854775807 by omega)]
    rw [decide_eq_false (by omega), cond_false, b64 (by omega)]
    simp [onV, fof]
  | succ d ih =>
    intro i f v o hi hf hv1 hv2
    obtain ⟨f, rfl⟩ : ∃ q, f = q + 1 := ⟨f - 1, by omega⟩
    have ha : i % s.length < s.length := Nat.mod_lt _ h0
    have hb : (i + 1) % s.length < s.length := Nat.mod_lt _ h0
    have tm : Int.tmod (i : Int) (s.length : Int) = ((i % s.length : Nat) : Int) := by rw [tmod_nn (by omega), ← Int.natCast_emod]
    have tm2 : Int.tmod ((i : Int) + 1) (s.length : Int) = (((i + 1) % s.length : Nat) : Int) := by rw [tmod_nn (by omega), show (i : Int) + 1 = ((i + 1 : Nat) : Int) by omega, ← Int.natCast_emod]
    have ff := far_fo s hs ha
    rw [next_mod] at ff
    have hk := rp_eq (vat64 hv2 (show i % s.length < v.length by omega)) hr (show I64 (fo s (i % s.length)).1 from (far_eq (at64 hs ha) (at64 hs (nxt_lt ha))).1)
    have tk := turn_ok hs hr hv2 (show i % s.length < v.length by omega) (show (i + 1) % s.length < v.length by omega) ha
    obtain ⟨f', hf', e⟩ := ih (i + 1) f _ (o || ((fo s (i % s.length)).2 || (turn s p.2.1 (i % s.length) ((i + 1) % s.length) (i % s.length) v).2)) (by omega) (by omega) (tk.1.trans hv1) tk.2
    refine ⟨f', hf', ?_⟩
    show B18_0_10 (K18_0 f) _ = _
    unfold B18_0_10
    simp only [b64 (show -9223372036854775808 ≤ (2 : Int) * (s.length : Int) ∧ (2 : Int) * (s.length : Int) ≤ 9223372036854775807 by omega), b64 (show -9223372036854775808 ≤ (i : Int) + 1 ∧ (i : Int) + 1 ≤ 9223372036854775807 by omega)]
    rw [decide_eq_true (by omega), cond_true]
    simp only [show ((s.length : Int) != 0) = true from bne_iff_ne.2 (by omega), chk, bnd', tm, tm2, pidx (show i % s.length < v.length by omega), pidx (show (i + 1) % s.length < v.length by omega), List.getElem?_eq_getElem (show i % s.length < v.length by omega), List.getElem?_eq_getElem (show (i + 1) % s.length < v.length by omega), getV (show i % s.length < v.length by omega), getV (show (i + 1) % s.length < v.length by omega), prd ha, prd hb, getP ha, getP hb, ff, (hk.2 _).2]
    rw [show ((i + 1 : Nat) : Int) = (i : Int) + 1 by omega] at e
    have e2 : ∀ q1 q2 : Bool, (o || q1 || q2) = (o || (q1 || q2)) := fun q1 q2 => Bool.or_assoc _ _ _
    simp only [e2]
    refine Eq.trans e ?_
    simp only [onV, fof]
    generalize (fo s (i % s.length)).2 = q1
    generalize (turn s p.2.1 (i % s.length) ((i + 1) % s.length) (i % s.length) v).2 = q2
    generalize onV s p.2.1 d (i + 1) (turn s p.2.1 (i % s.length) ((i + 1) % s.length) (i % s.length) v).1 = L
    generalize fof s d (i + 1) = q3
    cases o <;> cases q1 <;> cases q2 <;> cases q3 <;> cases L.2 <;> rfl
end Go.Proofs.Ytbmbnopgekbppaa.Ev
