/- How long a lap takes. -/
import Derived.Test.YtbmbnopgekbppaaMProfBend
set_option linter.unusedVariables false
set_option linter.unusedSimpArgs false
namespace Go.Proofs.Ytbmbnopgekbppaa.Ev
open Go

abbrev P2 : Type := Int × Int
def P64 (p : P2) : Prop := I64 p.1 ∧ I64 p.2
theorem prd {α : Type} {l : List α} {i : Nat} (h : i < l.length) : rdx l (i : Int) = some l[i] := by
  unfold rdx
  rw [decide_eq_true (by omega)]
  simp [List.getElem?_eq_getElem h]
theorem pidx {i n : Nat} (h : i < n) : idx (i : Int) n = some i := by unfold idx; rw [decide_eq_true (by omega)]; simp
theorem len2V {x y : Int} (hx : I64 x) (hy : I64 y) : ∃ v ov, I64 v ∧ ∀ o, F22_0 ((x, y), o) = some (v, o || ov) ∧ F62_0 ((x, y), o) = some (v, o || ov) := by
  have one : ∀ o, ∃ a : Int × Bool, LenP (x * x + y * y + 0 * 0) o a ∧ F22_0 ((x, y), o) = some a ∧ F62_0 ((x, y), o) = some a := by
    intro o
    obtain ⟨a, e1, h1⟩ := len_loop [x, y] (by simp) (by intro a ha; simp at ha; rcases ha with rfl | rfl <;> assumption) o 2 0 1000 0 rfl (by omega) (by decide) (by decide)
    obtain ⟨b, e2, h2⟩ := len3_ref hx hy (z := 0) (by unfold I64; omega) o
    have es : (0 : Int) + sumSq ([x, y].drop 0) = x * x + y * y + 0 * 0 := by show 0 + (x * x + (y * y + 0)) = _; omega
    rw [es] at h1
    obtain rfl := lenP_uniq h1 h2
    refine ⟨a, h1, ?_, ?_⟩
    · have e' : F48_0 ([x, y], o) = some a := e1
      unfold F22_0
      simp only []
      rw [e']; rfl
    · unfold F62_0
      simp only []
      rw [e2]; rfl
  obtain ⟨a, h1, _, _⟩ := one false
  refine ⟨a.1, a.2, lenP_i64 h1, fun o => ?_⟩
  obtain ⟨a', h', e1, e2⟩ := one o
  have : a' = (a.1, o || a.2) := by
    rcases h1 with ⟨hs, r, hr, ha⟩ | ⟨hs, ha⟩
    · rcases h' with ⟨_, r', hr', ha'⟩ | ⟨hs', _⟩
      · obtain rfl := rt_uniq hr hr'
        rw [ha, ha']
        split <;> simp
      · omega
    · rcases h' with ⟨hs', _⟩ | ⟨_, ha'⟩
      · omega
      · rw [ha, ha']; simp
  rw [e1, e2, this]; exact ⟨rfl, rfl⟩
def farP (a b : P2) : Int × Bool := (F28_0 ((a, b), false)).getD (0, false)
theorem far_eq {a b : P2} (ha : P64 a) (hb : P64 b) : I64 (farP a b).1 ∧ ∀ o, F28_0 ((a, b), o) = some ((farP a b).1, o || (farP a b).2) ∧ F33_0 ((a, b), o) = some ((farP a b).1, o || (farP a b).2) := by
  obtain ⟨v, ov, hv, hk⟩ := len2V (sat_i64 (b.1 - a.1)) (sat_i64 (b.2 - a.2))
  have all : ∀ o, F28_0 ((a, b), o) = some (v, o || (ovf (b.1 - a.1) || ovf (b.2 - a.2) || ov)) ∧ F33_0 ((a, b), o) = some (v, o || (ovf (b.1 - a.1) || ovf (b.2 - a.2) || ov)) := by
    intro o
    unfold F28_0 F33_0 F27_0
    simp only [sub_p hb.1 ha.1, sub_p hb.2 ha.2, rsub_eq hb.1 ha.1, rsub_eq hb.2 ha.2, bnd', (hk _).1, (hk _).2, Bool.or_assoc, and_self]
  have e : farP a b = (v, ovf (b.1 - a.1) || ovf (b.2 - a.2) || ov) := by unfold farP; rw [(all false).1]; simp
  rw [e]
  exact ⟨hv, all⟩
def nxt (n i : Nat) : Nat := (i + 1) % n
def fo (s : List P2) (i : Nat) : Int × Bool := farP (s.getD i (0, 0)) (s.getD (nxt s.length i) (0, 0))
def meanV (a b : Int) : Int := if (268435456 : Int) > mulS (sat (a + b)) 2147483648 then 268435456 else mulS (sat (a + b)) 2147483648
def stepV (s : List P2) (v : List Int) (i : Nat) (sum : Int) : Int × Bool :=
  (sat (sum + divS (fo s i).1 (meanV (v.getD i 0) (v.getD (nxt s.length i) 0))),
   ovf (v.getD i 0 + v.getD (nxt s.length i) 0) || (ovf (mulR (sat (v.getD i 0 + v.getD (nxt s.length i) 0)) 2147483648) || (divO (fo s i).1 (meanV (v.getD i 0) (v.getD (nxt s.length i) 0)) || ovf (sum + divS (fo s i).1 (meanV (v.getD i 0) (v.getD (nxt s.length i) 0))))))
def loopV (s : List P2) (v : List Int) : Nat → Nat → Int → Int × Bool
  | 0, _, sum => (sum, false)
  | d + 1, i, sum => ((loopV s v d (i + 1) (stepV s v i sum).1).1, (stepV s v i sum).2 || (loopV s v d (i + 1) (stepV s v i sum).1).2)
def orF (s : List P2) : Nat → Nat → Bool
  | 0, _ => false
  | d + 1, i => (fo s i).2 || orF s d (i + 1)
def farsF (s : List P2) : Nat → Nat → List Int
  | 0, _ => []
  | d + 1, i => (fo s i).1 :: farsF s d (i + 1)
theorem farsF_get (s : List P2) : ∀ (d i j : Nat), j < d → (farsF s d i)[j]? = some (fo s (i + j)).1 := by
  intro d
  induction d with
  | zero => intro i j h; omega
  | succ d ih =>
    intro i j h
    cases j with
    | zero => rfl
    | succ j =>
      simp only [farsF, List.getElem?_cons_succ]
      rw [ih (i + 1) j (by omega), show i + 1 + j = i + (j + 1) by omega]
theorem farsF_len (s : List P2) : ∀ (d i : Nat), (farsF s d i).length = d := by
  intro d
  induction d with
  | zero => intro i; rfl
  | succ d ih => intro i; simp only [farsF, List.length_cons, ih]
theorem next_eq (s : List P2) (fr : List Int) {i : Nat} (hi : i < s.length) (hl : s.length ≤ 100) : F40_0 ((s, fr), (i : Int)) = some ((nxt s.length i : Nat) : Int) := by
  unfold F40_0 nxt
  simp only []
  rw [b64 (by omega), show ((s.length : Int) != 0) = true from bne_iff_ne.2 (by omega)]
  simp only [chk, bnd']
  rw [tmod_nn (by omega), show (i : Int) + 1 = ((i + 1 : Nat) : Int) by omega, ← Int.natCast_emod]
theorem nxt_lt {n i : Nat} (h : i < n) : nxt n i < n := Nat.mod_lt _ (by omega)
theorem getP {s : List P2} {i : Nat} (h : i < s.length) : s[i] = s.getD i (0, 0) := by simp [List.getD, List.getElem?_eq_getElem h]
theorem getV {s : List Int} {i : Nat} (h : i < s.length) : s[i] = s.getD i 0 := by simp [List.getD, List.getElem?_eq_getElem h]
theorem at64 {s : List P2} (hs : ∀ p ∈ s, P64 p) {i : Nat} (h : i < s.length) : P64 (s.getD i (0, 0)) := by rw [← getP h]; exact hs _ (List.getElem_mem h)
theorem vat64 {s : List Int} (hs : ∀ p ∈ s, I64 p) {i : Nat} (h : i < s.length) : I64 (s.getD i 0) := by rw [← getV h]; exact hs _ (List.getElem_mem h)
theorem looped_loop (s : List P2) (hs : ∀ p ∈ s, P64 p) (hl : s.length ≤ 100) (z1 : List Int) (z2 : List P2) : ∀ (d i f : Nat) (fr : List Int) (o : Bool), i + d = s.length → d < f → fr.length = i →
    K39_0 f ((s, (s, ((s.length : Int), (i : Int)))), (s, (fr, (z1, (z2, o))))) = some (s, (fr ++ farsF s d i, o || orF s d i)) := by
  intro d
  induction d with
  | zero =>
    intro i f fr o hi hf hfr
    obtain ⟨f, rfl⟩ : ∃ q, f = q + 1 := ⟨f - 1, by omega⟩
    show B39_0_3 (K39_0 f) _ = _
    unfold B39_0_3
    rw [decide_eq_false (by simp only []; omega), cond_false]
    simp [farsF, orF]
  | succ d ih =>
    intro i f fr o hi hf hfr
    obtain ⟨f, rfl⟩ : ∃ q, f = q + 1 := ⟨f - 1, by omega⟩
    have hil : i < s.length := by omega
    have hn := nxt_lt hil
    have hfar := (far_eq (at64 hs hil) (at64 hs hn)).2 o
    show B39_0_3 (K39_0 f) _ = _
    unfold B39_0_3
    rw [decide_eq_true (by simp only []; omega), cond_true]
    simp only [prd hil, next_eq s fr hil hl, prd hn, getP hil, getP hn, hfar.1, bnd']
    rw [decide_eq_true (by simp; omega)]
    simp only [chk, bnd']
    rw [b64 (show -9223372036854775808 ≤ (i : Int) + 1 ∧ (i : Int) + 1 ≤ 9223372036854775807 by omega)]
    have := ih (i + 1) f (fr ++ [(fo s i).1]) (o || (fo s i).2) (by omega) (by omega) (by simp [hfr])
    rw [show ((i + 1 : Nat) : Int) = (i : Int) + 1 by omega] at this
    refine Eq.trans this ?_
    simp [farsF, orF, Bool.or_assoc]
theorem looped_eq (s : List P2) (hs : ∀ p ∈ s, P64 p) (hl : s.length ≤ 100) (o : Bool) : F39_0 (s, o) = some (s, (farsF s s.length 0, o || orF s s.length 0)) := by
  have := looped_loop s hs hl [] [] s.length 0 1000 [] o (by omega) (by omega) rfl
  rw [List.nil_append] at this
  exact this
theorem lap_p (s : List P2) (v : List Int) (hs : ∀ p ∈ s, P64 p) (hv : ∀ p ∈ v, I64 p) (hl : s.length ≤ 100) (hlv : v.length = s.length) : ∀ (d i f : Nat) (sum : Int) (o : Bool), i + d = s.length → d < f → I64 sum →
    K19_0 f ((v, (sum, ((s.length : Int), (i : Int)))), (s, (farsF s s.length 0, o))) = some ((loopV s v d i sum).1, o || (loopV s v d i sum).2) := by
  intro d
  induction d with
  | zero =>
    intro i f sum o hi hf h0
    obtain ⟨f, rfl⟩ : ∃ q, f = q + 1 := ⟨f - 1, by omega⟩
    show B19_0_6 (K19_0 f) _ = _
    unfold B19_0_6
    rw [decide_eq_false (by simp only []; omega), cond_false]
    simp [loopV]
  | succ d ih =>
    intro i f sum o hi hf h0
    obtain ⟨f, rfl⟩ : ∃ q, f = q + 1 := ⟨f - 1, by omega⟩
    have hil : i < s.length := by omega
    have hn := nxt_lt hil
    have hfar := (far_eq (at64 hs hil) (at64 hs hn)).1
    have fg := farsF_get s s.length 0 i hil
    rw [Nat.zero_add] at fg
    have h2 : I64 2147483648 := by unfold I64; omega
    have hm : I64 (meanV (v.getD i 0) (v.getD (nxt s.length i) 0)) := by unfold meanV; split; (unfold I64; omega); exact mulS_i64 _ _
    show B19_0_6 (K19_0 f) _ = _
    unfold B19_0_6
    rw [decide_eq_true (by simp only []; omega), cond_true]
    simp only [farsF_len, pidx hil, fg, prd (show i < v.length by omega), next_eq s _ hil hl, prd (show nxt s.length i < v.length by omega), getV (show i < v.length by omega), getV (show nxt s.length i < v.length by omega), bnd', add_p (vat64 hv (show i < v.length by omega)) (vat64 hv (show nxt s.length i < v.length by omega)), mul_p (sat_i64 _) h2]
    have dv : ∀ o', F29_0 (((fo s i).1, (if (268435456 : Int) > mulS (sat (v.getD i 0 + v.getD (nxt s.length i) 0)) 2147483648 then 268435456 else mulS (sat (v.getD i 0 + v.getD (nxt s.length i) 0)) 2147483648)), o') = some (divS (fo s i).1 (meanV (v.getD i 0) (v.getD (nxt s.length i) 0)), o' || divO (fo s i).1 (meanV (v.getD i 0) (v.getD (nxt s.length i) 0))) := fun o' => div_p hfar hm o'
    simp only [dv, bnd', add_p h0 (divS_i64 _ _)]
    rw [b64 (show -9223372036854775808 ≤ (i : Int) + 1 ∧ (i : Int) + 1 ≤ 9223372036854775807 by omega)]
    have := ih (i + 1) f (stepV s v i sum).1 (o || (stepV s v i sum).2) (by omega) (by omega) (sat_i64 _)
    rw [show ((i + 1 : Nat) : Int) = (i : Int) + 1 by omega] at this
    simp only [stepV, loopV, Bool.or_assoc] at this ⊢
    exact this
theorem lap_r (s : List P2) (v : List Int) (hs : ∀ p ∈ s, P64 p) (hv : ∀ p ∈ v, I64 p) (hl : s.length ≤ 100) (hlv : v.length = s.length) : ∀ (d i f : Nat) (sum : Int) (o : Bool), i + d = s.length → d < f → I64 sum →
    K20_0 f ((s, (v, (sum, (i : Int)))), o) = some ((loopV s v d i sum).1, o || ((loopV s v d i sum).2 || orF s d i)) := by
  intro d
  induction d with
  | zero =>
    intro i f sum o hi hf h0
    obtain ⟨f, rfl⟩ : ∃ q, f = q + 1 := ⟨f - 1, by omega⟩
    show B20_0_5 (K20_0 f) _ = _
    unfold B20_0_5
    rw [decide_eq_false (by simp only []; omega), cond_false]
    simp [loopV, orF]
  | succ d ih =>
    intro i f sum o hi hf h0
    obtain ⟨f, rfl⟩ : ∃ q, f = q + 1 := ⟨f - 1, by omega⟩
    have hil : i < s.length := by omega
    have hn := nxt_lt hil
    have hfar := far_eq (at64 hs hil) (at64 hs hn)
    have h2 : I64 2147483648 := by unfold I64; omega
    have hm : I64 (meanV (v.getD i 0) (v.getD (nxt s.length i) 0)) := by unfold meanV; split; (unfold I64; omega); exact mulS_i64 _ _
    have w1 : IntKind.wrap .i64 ((i : Int) + 1) = (i : Int) + 1 := b64 (by omega)
    have tm : Int.tmod ((i : Int) + 1) (s.length : Int) = ((nxt s.length i : Nat) : Int) := by
      unfold nxt
      rw [tmod_nn (by omega), show (i : Int) + 1 = ((i + 1 : Nat) : Int) by omega, ← Int.natCast_emod]
    show B20_0_5 (K20_0 f) _ = _
    unfold B20_0_5
    rw [decide_eq_true (by simp only []; omega), cond_true]
    simp only [w1, tm, show ((s.length : Int) != 0) = true from bne_iff_ne.2 (by omega), chk, bnd', prd (show i < v.length by omega), prd (show nxt s.length i < v.length by omega), getV (show i < v.length by omega), getV (show nxt s.length i < v.length by omega), radd_eq (vat64 hv (show i < v.length by omega)) (vat64 hv (show nxt s.length i < v.length by omega)), rmul_eq (sat_i64 _) h2, prd hil, prd hn, getP hil, getP hn, (hfar.2 _).2]
    have dv : ∀ o', F34_0 (((fo s i).1, (if (268435456 : Int) > mulS (sat (v.getD i 0 + v.getD (nxt s.length i) 0)) 2147483648 then 268435456 else mulS (sat (v.getD i 0 + v.getD (nxt s.length i) 0)) 2147483648)), o') = some (divS (fo s i).1 (meanV (v.getD i 0) (v.getD (nxt s.length i) 0)), o' || divO (fo s i).1 (meanV (v.getD i 0) (v.getD (nxt s.length i) 0))) := fun o' => rdiv_eq hfar.1 hm o'
    have ef : farP (s.getD i (0, 0)) (s.getD (nxt s.length i) (0, 0)) = fo s i := rfl
    simp only [ef, dv, bnd', radd_eq h0 (divS_i64 _ _)]
    have := ih (i + 1) f (stepV s v i sum).1 (o || ((stepV s v i sum).2 || (fo s i).2)) (by omega) (by omega) (sat_i64 _)
    rw [show ((i + 1 : Nat) : Int) = (i : Int) + 1 by omega] at this
    simp only [stepV, loopV, orF] at this ⊢
    generalize hq : (fo s i).2 = q at *
    generalize ovf (v.getD i 0 + v.getD (nxt s.length i) 0) = q1 at *
    generalize ovf (mulR (sat (v.getD i 0 + v.getD (nxt s.length i) 0)) 2147483648) = q2 at *
    generalize divO (fo s i).1 (meanV (v.getD i 0) (v.getD (nxt s.length i) 0)) = q3 at *
    generalize ovf (sum + divS (fo s i).1 (meanV (v.getD i 0) (v.getD (nxt s.length i) 0))) = q4 at *
    generalize loopV s v d (i + 1) (sat (sum + divS (fo s i).1 (meanV (v.getD i 0) (v.getD (nxt s.length i) 0)))) = L at *
    generalize orF s d (i + 1) = q5 at *
    cases o <;> cases q <;> cases q1 <;> cases q2 <;> cases q3 <;> cases q4 <;> simp only [Bool.or_true, Bool.true_or, Bool.or_false, Bool.false_or] at this ⊢ <;> first | exact this | (rw [this]; cases q5 <;> cases L.2 <;> rfl)
theorem lap_same (s : List P2) (v : List Int) (hs : ∀ p ∈ s, P64 p) (hv : ∀ p ∈ v, I64 p) (hl : s.length ≤ 100) (o : Bool) : ∃ r o', F19_0 ((s, v), o) = some (r, o') ∧ F20_0 ((s, v), o) = some (r, o') := by
  unfold F19_0 E19_0 F20_0 E20_0
  simp only []
  by_cases hlv : (v.length : Int) = (s.length : Int)
  case neg =>
    rw [show ((v.length : Int) != (s.length : Int)) = true from bne_iff_ne.2 hlv]
    exact ⟨0, o, rfl, rfl⟩
  rw [show ((v.length : Int) != (s.length : Int)) = false by rw [hlv]; simp]
  simp only [cond_false]
  have hlv' : v.length = s.length := by omega
  have h0 : I64 0 := by unfold I64; omega
  have r := lap_r s v hs hv hl hlv' s.length 0 1000 0 o (by omega) (by omega) h0
  by_cases hz : (s.length : Int) = 0
  · rw [show ((s.length : Int) == 0) = true from beq_iff_eq.2 hz, cond_true]
    refine ⟨_, _, rfl, Eq.trans r ?_⟩
    have : s.length = 0 := by omega
    rw [this]
    simp [loopV, orF]
  · rw [show ((s.length : Int) == 0) = false from beq_eq_false_iff_ne.2 hz, cond_false, looped_eq s hs hl, bnd']
    have p := lap_p s v hs hv hl hlv' s.length 0 1000 0 (o || orF s s.length 0) (by omega) (by omega) h0
    refine ⟨_, _, ?_, r⟩
    simp only [farsF_len]
    refine Eq.trans p ?_
    refine some_eq (pair_eq rfl ?_)
    cases o <;> cases orF s s.length 0 <;> cases (loopV s v s.length 0 0).2 <;> rfl
theorem law5_0 (v) (h : Dom5_0 v) : F5_0 v = some true := by
  obtain ⟨s, v⟩ := v
  unfold F5_0
  simp only []
  by_cases h1 : (s.length : Int) > 100
  · rw [decide_eq_true h1]; rfl
  rw [decide_eq_false h1, cond_false]
  by_cases h2 : (v.length : Int) > 100
  · rw [decide_eq_true h2]; rfl
  rw [decide_eq_false h2, cond_false]
  obtain ⟨⟨_, hs⟩, _, hv⟩ := h
  obtain ⟨r, o, p, q⟩ := lap_same s v (fun x hx => ⟨pwf64 (hs x hx).1, pwf64 (hs x hx).2⟩) (fun x hx => pwf64 (hv x hx)) (by omega) false
  have b2' : ∀ x : Int, (x == x) = true := fun x => by simp
  have b3' : ∀ x : Bool, (x == x) = true := fun x => by simp
  simp only [p, q, bnd', b2', b3', cond_true, awake52]
end Go.Proofs.Ytbmbnopgekbppaa.Ev
