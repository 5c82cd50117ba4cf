/- A loop's speeds: all in all. -/
import Derived.Test.YtbmbnopgekbppaaMProfSpeeds2
set_option linter.unusedVariables false
set_option linter.unusedSimpArgs false
namespace Go.Proofs.Ytbmbnopgekbppaa.Ev
open Go

theorem sK3 (n : Nat) : (K18_0 (n + 1)).2.2 = B18_0_16 (K18_0 n) := rfl
theorem back_r (s : List P2) (hs : ∀ p ∈ s, P64 p) (h0 : 0 < s.length) (hl : s.length ≤ 100) (p : Pc) (hr : I64 p.2.2.1) : ∀ (d f : Nat) (v : List Int) (o : Bool), d ≤ 200 → d < f → v.length = s.length → (∀ x ∈ v, I64 x) →
    (K18_0 f).2.2 ((s, ((s.length : Int), (d : Int) - 1)), (v, (p, o))) = some ((backV s p.2.2.1 d v).1, o || ((backV s p.2.2.1 d v).2 || fob s d)) := by
  intro d
  induction d with
  | zero =>
    intro f v o hi hf hv1 hv2
    obtain ⟨f, rfl⟩ : ∃ q, f = q + 1 := ⟨f - 1, by omega⟩
    rw [sK3]
    unfold B18_0_16
    rw [decide_eq_false (by simp only []; omega), cond_false]
    simp [backV, fob]
  | succ d ih =>
    intro f v o hi hf hv1 hv2
    obtain ⟨f, rfl⟩ : ∃ q, f = q + 1 := ⟨f - 1, by omega⟩
    have ha : d % s.length < s.length := Nat.mod_lt _ h0
    have hb : (d + 1) % s.length < s.length := Nat.mod_lt _ h0
    have e1 : ((d + 1 : Nat) : Int) - 1 = (d : Int) := by omega
    have tm : Int.tmod (d : Int) (s.length : Int) = ((d % s.length : Nat) : Int) := by rw [tmod_nn (by omega), ← Int.natCast_emod]
    have tm2 : Int.tmod ((d : Int) + 1) (s.length : Int) = (((d + 1) % s.length : Nat) : Int) := by rw [tmod_nn (by omega), show (d : Int) + 1 = ((d + 1 : Nat) : Int) by omega, ← Int.natCast_emod]
    have ff := far_fo s hs ha
    rw [next_mod] at ff
    have hk := rp_eq (vat64 hv2 (show (d + 1) % s.length < v.length by omega)) hr (show I64 (fo s (d % s.length)).1 from (far_eq (at64 hs ha) (at64 hs (nxt_lt ha))).1)
    have tk := turn_ok hs hr hv2 (show (d + 1) % s.length < v.length by omega) (show d % s.length < v.length by omega) ha
    have e := ih f _ (o || ((fo s (d % s.length)).2 || (turn s p.2.2.1 ((d + 1) % s.length) (d % s.length) (d % s.length) v).2)) (by omega) (by omega) (tk.1.trans hv1) tk.2
    rw [e1]
    rw [sK3]
    unfold B18_0_16
    rw [decide_eq_true (by simp only []; omega), cond_true]
    simp only [b64 (show -9223372036854775808 ≤ (d : Int) + 1 ∧ (d : Int) + 1 ≤ 9223372036854775807 by omega), b64 (show -9223372036854775808 ≤ (d : Int) - 1 ∧ (d : Int) - 1 ≤ 9223372036854775807 by omega), show ((s.length : Int) != 0) = true from bne_iff_ne.2 (by omega), chk, bnd', tm, tm2, pidx (show d % s.length < v.length by omega), pidx (show (d + 1) % s.length < v.length by omega), List.getElem?_eq_getElem (show d % s.length < v.length by omega), List.getElem?_eq_getElem (show (d + 1) % s.length < v.length by omega), getV (show d % s.length < v.length by omega), getV (show (d + 1) % s.length < v.length by omega), prd ha, prd hb, getP ha, getP hb, ff, (hk.2 _).2]
    have e2 : ∀ q1 q2 : Bool, (o || q1 || q2) = (o || (q1 || q2)) := fun q1 q2 => Bool.or_assoc _ _ _
    simp only [e2]
    refine Eq.trans e ?_
    simp only [backV, fob]
    generalize (fo s (d % s.length)).2 = q1
    generalize (turn s p.2.2.1 ((d + 1) % s.length) (d % s.length) (d % s.length) v).2 = q2
    generalize backV s p.2.2.1 d (turn s p.2.2.1 ((d + 1) % s.length) (d % s.length) (d % s.length) v).1 = L
    generalize fob s d = q3
    cases o <;> cases q1 <;> cases q2 <;> cases q3 <;> cases L.2 <;> rfl
/-! ### Limits -/
def prv (n i : Nat) : Nat := (i + n - 1) % n
def bndP (s : List P2) (i : Nat) : Int × Bool := (F8_0 ((s.getD (prv s.length i) (0, 0), (s.getD i (0, 0), s.getD (nxt s.length i) (0, 0))), false)).getD (0, false)
theorem bnd_eq (s : List P2) (hs : ∀ p ∈ s, P64 p) {i : Nat} (hi : i < s.length) : I64 (bndP s i).1 ∧ ∀ o, F8_0 ((s.getD (prv s.length i) (0, 0), (s.getD i (0, 0), s.getD (nxt s.length i) (0, 0))), o) = some ((bndP s i).1, o || (bndP s i).2) ∧ F9_0 ((s.getD (prv s.length i) (0, 0), (s.getD i (0, 0), s.getD (nxt s.length i) (0, 0))), o) = some ((bndP s i).1, o || (bndP s i).2) := by
  obtain ⟨x, ov, ix, hk⟩ := bendV (at64 hs (show prv s.length i < s.length from Nat.mod_lt _ (by omega))) (at64 hs hi) (at64 hs (nxt_lt hi))
  have e : bndP s i = (x, ov) := by unfold bndP; rw [(hk false).1]; simp
  rw [e]; exact ⟨ix, hk⟩
def lmP (s : List P2) (p : Pc) (i : Nat) : Int × Bool := (F10_0 (((bndP s i).1, (p.1, p.2.2.2)), false)).getD (0, false)
theorem lm_eq (s : List P2) (hs : ∀ p ∈ s, P64 p) (p : Pc) (h1 : I64 p.1) (h2 : I64 p.2.2.2) {i : Nat} (hi : i < s.length) : I64 (lmP s p i).1 ∧ ∀ o, F10_0 (((bndP s i).1, (p.1, p.2.2.2)), o) = some ((lmP s p i).1, o || (lmP s p i).2) ∧ F11_0 (((bndP s i).1, (p.1, p.2.2.2)), o) = some ((lmP s p i).1, o || (lmP s p i).2) := by
  obtain ⟨x, ov, ix, _, hk⟩ := limitV (bnd_eq s hs hi).1 h1 h2
  have e : lmP s p i = (x, ov) := by unfold lmP; rw [(hk false).1]; simp
  rw [e]; exact ⟨ix, hk⟩
def limL (s : List P2) (p : Pc) : Nat → Nat → List Int
  | 0, _ => []
  | d + 1, i => (lmP s p i).1 :: limL s p d (i + 1)
def limO (s : List P2) (p : Pc) : Nat → Nat → Bool
  | 0, _ => false
  | d + 1, i => (bndP s i).2 || ((lmP s p i).2 || limO s p d (i + 1))
theorem limL_ok (s : List P2) (hs : ∀ p ∈ s, P64 p) (p : Pc) (h1 : I64 p.1) (h2 : I64 p.2.2.2) : ∀ (d i : Nat), i + d = s.length → (limL s p d i).length = d ∧ ∀ x ∈ limL s p d i, I64 x := by
  intro d
  induction d with
  | zero => intro i _; exact ⟨rfl, by simp [limL]⟩
  | succ d ih =>
    intro i hi
    obtain ⟨a, b⟩ := ih (i + 1) (by omega)
    refine ⟨by simp [limL, a], fun x hx => ?_⟩
    simp only [limL, List.mem_cons] at hx
    rcases hx with rfl | hx
    · exact (lm_eq s hs p h1 h2 (by omega)).1
    · exact b x hx
theorem lim_p (s : List P2) (hs : ∀ p ∈ s, P64 p) (hl : s.length ≤ 100) (p : Pc) (h1 : I64 p.1) (h2 : I64 p.2.2.2) (fr : List Int) : ∀ (d i f : Nat) (pre : List Int) (o : Bool), i + d = s.length → d + 10 < f → pre.length = i →
    ∃ f', 5 < f' ∧ (K13_0 f).1 ((s, ((s.length : Int), (i : Int))), (pre ++ List.replicate d (0 : Int), (s, (fr, (p, o))))) = (K13_0 f').2.1 (s, (pre ++ limL s p d i, (s, (fr, (p, o || limO s p d i))))) := by
  intro d
  induction d with
  | zero =>
    intro i f pre o hi hf hp
    obtain ⟨f, rfl⟩ : ∃ q, f = q + 1 := ⟨f - 1, by omega⟩
    refine ⟨f, by omega, ?_⟩
    show B13_0_6 (K13_0 f) _ = _
    unfold B13_0_6
    rw [decide_eq_false (by simp only []; omega), cond_false]
    unfold F41_1
    simp [limL, limO]
  | succ d ih =>
    intro i f pre o hi hf hp
    obtain ⟨f, rfl⟩ : ∃ q, f = q + 1 := ⟨f - 1, by omega⟩
    have hil : i < s.length := by omega
    have hn := nxt_lt hil
    have hpv : prv s.length i < s.length := Nat.mod_lt _ (by omega)
    have tm : Int.tmod ((i : Int) + (s.length : Int) - 1) (s.length : Int) = ((prv s.length i : Nat) : Int) := by
      unfold prv
      rw [tmod_nn (by omega), show (i : Int) + (s.length : Int) - 1 = ((i + s.length - 1 : Nat) : Int) by omega, ← Int.natCast_emod]
    have hlen : (pre ++ List.replicate (d + 1) (0 : Int)).length = s.length := by simp [hp]; omega
    obtain ⟨f', hf', e⟩ := ih (i + 1) f (pre ++ [(lmP s p i).1]) (o || (bndP s i).2 || (lmP s p i).2) (by omega) (by omega) (by simp [hp])
    refine ⟨f', hf', ?_⟩
    show B13_0_6 (K13_0 f) _ = _
    unfold B13_0_6
    rw [decide_eq_true (by simp only []; omega), cond_true]
    simp only [b64 (show -9223372036854775808 ≤ (i : Int) + (s.length : Int) ∧ (i : Int) + (s.length : Int) ≤ 9223372036854775807 by omega), b64 (show -9223372036854775808 ≤ (i : Int) + (s.length : Int) - 1 ∧ (i : Int) + (s.length : Int) - 1 ≤ 9223372036854775807 by omega), b64 (show -9223372036854775808 ≤ (i : Int) + 1 ∧ (i : Int) + 1 ≤ 9223372036854775807 by omega), show ((s.length : Int) != 0) = true from bne_iff_ne.2 (by omega), chk, bnd', tm, prd hpv, prd hil, next_eq s fr hil hl, prd hn, getP hpv, getP hil, getP hn, ((bnd_eq s hs hil).2 _).1, ((lm_eq s hs p h1 h2 hil).2 _).1, pidx (show i < (pre ++ List.replicate (d + 1) (0 : Int)).length by omega), List.getElem?_eq_getElem (show i < (pre ++ List.replicate (d + 1) (0 : Int)).length by omega)]
    have es : (pre ++ List.replicate (d + 1) (0 : Int)).set i (lmP s p i).1 = pre ++ [(lmP s p i).1] ++ List.replicate d 0 := by
      rw [List.set_append_right _ _ (by omega), hp, Nat.sub_self, List.replicate_succ, List.set_cons_zero]; simp
    rw [es]
    rw [show ((i + 1 : Nat) : Int) = (i : Int) + 1 by omega] at e
    refine Eq.trans e ?_
    simp [limL, limO, Bool.or_assoc]
theorem lim_r (s : List P2) (hs : ∀ p ∈ s, P64 p) (hl : s.length ≤ 100) (p : Pc) (h1 : I64 p.1) (h2 : I64 p.2.2.2) : ∀ (d i f : Nat) (pre : List Int) (o : Bool), i + d = s.length → d + 500 < f → pre.length = i →
    ∃ f', 450 < f' ∧ (K18_0 f).1 ((s, ((s.length : Int), (i : Int))), (pre, (p, o))) = (K18_0 f').2.1 ((s, ((s.length : Int), (0 : Int))), (pre ++ limL s p d i, (p, o || limO s p d i))) := by
  intro d
  induction d with
  | zero =>
    intro i f pre o hi hf hp
    obtain ⟨f, rfl⟩ : ∃ q, f = q + 1 := ⟨f - 1, by omega⟩
    refine ⟨f, by omega, ?_⟩
    show B18_0_6 (K18_0 f) _ = _
    unfold B18_0_6
    rw [decide_eq_false (by simp only []; omega), cond_false]
    simp [limL, limO]
  | succ d ih =>
    intro i f pre o hi hf hp
    obtain ⟨f, rfl⟩ : ∃ q, f = q + 1 := ⟨f - 1, by omega⟩
    have hil : i < s.length := by omega
    have hn := nxt_lt hil
    have hpv : prv s.length i < s.length := Nat.mod_lt _ (by omega)
    have tm : Int.tmod ((i : Int) + (s.length : Int) - 1) (s.length : Int) = ((prv s.length i : Nat) : Int) := by
      unfold prv
      rw [tmod_nn (by omega), show (i : Int) + (s.length : Int) - 1 = ((i + s.length - 1 : Nat) : Int) by omega, ← Int.natCast_emod]
    have tm2 : Int.tmod ((i : Int) + 1) (s.length : Int) = ((nxt s.length i : Nat) : Int) := by
      unfold nxt
      rw [tmod_nn (by omega), show (i : Int) + 1 = ((i + 1 : Nat) : Int) by omega, ← Int.natCast_emod]
    obtain ⟨f', hf', e⟩ := ih (i + 1) f (pre ++ [(lmP s p i).1]) (o || (bndP s i).2 || (lmP s p i).2) (by omega) (by omega) (by simp [hp])
    refine ⟨f', hf', ?_⟩
    show B18_0_6 (K18_0 f) _ = _
    unfold B18_0_6
    rw [decide_eq_true (by simp only []; omega), cond_true]
    simp only [b64 (show -9223372036854775808 ≤ (i : Int) + (s.length : Int) ∧ (i : Int) + (s.length : Int) ≤ 9223372036854775807 by omega), b64 (show -9223372036854775808 ≤ (i : Int) + (s.length : Int) - 1 ∧ (i : Int) + (s.length : Int) - 1 ≤ 9223372036854775807 by omega), b64 (show -9223372036854775808 ≤ (i : Int) + 1 ∧ (i : Int) + 1 ≤ 9223372036854775807 by omega), show ((s.length : Int) != 0) = true from bne_iff_ne.2 (by omega), chk, bnd', tm, tm2, prd hpv, prd hil, prd hn, getP hpv, getP hil, getP hn, ((bnd_eq s hs hil).2 _).2, ((lm_eq s hs p h1 h2 hil).2 _).2]
    rw [decide_eq_true (by simp [hp]; omega)]
    simp only [bnd']
    rw [show ((i + 1 : Nat) : Int) = (i : Int) + 1 by omega] at e
    refine Eq.trans e ?_
    simp [limL, limO, Bool.or_assoc]
end Go.Proofs.Ytbmbnopgekbppaa.Ev
