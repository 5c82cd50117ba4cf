/- PlanBest: what its function computes is true, whatever comes in. -/
import Derived.Test.YthlnocpbdhcnlaaMRefBest
set_option linter.unusedVariables false
set_option linter.unusedSimpArgs false
namespace Go.Proofs.Ythlnocpbdhcnlaa.Ev
open Go
/-- The best plan comes first of all that go, in the document's order. -/
theorem best_lex {r : Race} (hok : okR r = true) : ∃ (q : List Int) (t c : Int), F25_0 r = some ((t, true), q) ∧ q.length ≤ 100 ∧ cs (stintF r) r.1 r.2.2.2.2.2 q 0 = some c ∧ t = (q.length : Int) * r.2.2.2.2.1 + c ∧
    ∀ (p : List Int) (c' : Int), cs (stintF r) r.1 r.2.2.2.2.2 p 0 = some c' → q = p ∨ betterB q t p ((p.length : Int) * r.2.2.2.2.1 + c') = true := by
  have h := okR_inv hok
  have hf := fits_of h
  have hl := h.laps
  have hm := h.most
  have h25 := F25_eq hok
  have hL : ((r.1.toNat : Nat) : Int) = r.1 := Int.toNat_of_nonneg (by omega)
  have hM : ((r.2.2.2.2.2.toNat : Nat) : Int) = r.2.2.2.2.2 := Int.toNat_of_nonneg (by omega)
  have hlex := fun (p : List Int) (c : Int) => lex_least hf r.2.2.2.2.2.toNat r.1.toNat (by omega) (by omega) p r.1.toNat 0 c (by omega) (by omega)
  obtain ⟨c, h1, h2, h3⟩ := read_off hf r.2.2.2.2.2.toNat r.1.toNat (by omega) (by omega) r.1.toNat 0 (by omega) (by omega)
  have hst : stopsF (tableOf r) r.1.toNat (r.1.toNat + 1) 0 = after (stintF r) r.2.2.2.2.1 r.2.2.2.2.2.toNat r.1.toNat r.1.toNat 0 := by
    have : (0 : Nat) < r.1.toNat := by omega
    simp only [stopsF, this, if_true, Nat.lt_irrefl, gt_iff_lt, if_false, List.nil_append]
    rfl
  rw [hst] at h25
  change cs _ _ _ (after (stintF r) r.2.2.2.2.1 r.2.2.2.2.2.toNat r.1.toNat r.1.toNat 0) _ = some c at h1
  change c + ((after (stintF r) r.2.2.2.2.1 r.2.2.2.2.2.toNat r.1.toNat r.1.toNat 0).length : Int) * _ = _ at h2
  change ((after (stintF r) r.2.2.2.2.1 r.2.2.2.2.2.toNat r.1.toNat r.1.toNat 0).length : Int) + 1 = _ at h3
  rw [Nat.sub_zero] at h2 h3
  have h0 : ((0 : Nat) : Int) = 0 := rfl
  rw [hL, hM, h0] at h1
  have hrest : (tableOf r).getD r.1.toNat z3 = rest (stintF r) r.2.2.2.2.1 r.2.2.2.2.2.toNat r.1.toNat := rfl
  rw [hrest] at h25
  have hr := Bs_ok hf (M := r.2.2.2.2.2.toNat) (by omega) r.1.toNat (by omega) r.1.toNat (Nat.le_refl _)
  have hs := hr.shi
  have hr2 : ((Bs (stintF r) r.2.2.2.2.1 r.2.2.2.2.2.toNat r.1.toNat).getD r.1.toNat z3) = rest (stintF r) r.2.2.2.2.1 r.2.2.2.2.2.toNat r.1.toNat := rfl
  rw [hr2] at hs
  refine ⟨_, _, c, h25, by omega, h1, by omega, fun p c' hc => ?_⟩
  have hx := hlex p c' (by rw [hL, hM, h0]; exact hc)
  rw [Nat.sub_zero] at hx
  unfold betterB
  rcases hx with hx | ⟨hx, hy | ⟨hy, hz | hz⟩⟩
  · right; rw [if_neg (by omega)]; simp only [decide_eq_true_eq]; omega
  · right; rw [if_pos (by omega), if_neg (by omega)]; simp only [decide_eq_true_eq]; omega
  · left; exact hz
  · right; rw [if_pos (by omega), if_pos (by omega)]; exact hz
section
variable {base : Int} {old : List Int} {heavy stop most : Int}
def vS (L : Nat) (base : Int) (old : List Int) (heavy stop most : Int) (s : Nat) : Option Int := cs (stintF ((L : Int), base, old, heavy, stop, most)) (L : Int) most (planF s (L - 1) 0) 0
def tS (L : Nat) (stop : Int) (s : Nat) (c : Int) : Int := ((planF s (L - 1) 0).length : Int) * stop + c
structure GoodB (L : Nat) (base : Int) (old : List Int) (heavy stop most : Int) (n : Nat) (time : Int) (found : Bool) (best : List Int) : Prop where
  no : found = false → ∀ s, s < n → vS L base old heavy stop most s = none
  yes : found = true → ∃ s0 c0, s0 < n ∧ best = planF s0 (L - 1) 0 ∧ vS L base old heavy stop most s0 = some c0 ∧ time = tS L stop s0 c0 ∧
    ∀ s c, s < n → vS L base old heavy stop most s = some c → betterB (planF s (L - 1) 0) (tS L stop s c) best time = false
theorem planF_len (s : Nat) : ∀ (m lo : Nat), (planF s m lo).length ≤ m := by
  intro m
  induction m with
  | zero => intro lo; simp [planF]
  | succ m ihm =>
    intro lo
    have := ihm (lo + 1)
    simp only [planF, List.length_append]
    split <;> simp <;> omega
theorem step26 {L : Nat} (h1 : 1 ≤ L) (h12 : L ≤ 12) (hok : okR ((L : Int), base, old, heavy, stop, most) = true) (n : Nat) (hn : n < 2 ^ (L - 1)) (time : Int) (found : Bool) (best : List Int) (hg : GoodB L base old heavy stop most n time found best) (F : Nat) :
    ∃ time' found' best', GoodB L base old heavy stop most (n + 1) time' found' best' ∧
      (K26_0 (F + L + 1)).1 ((time, (found, (n : Int))), (best, ((L : Int), base, old, heavy, stop, most))) = (K26_0 F).1 ((time', (found', ((n + 1 : Nat) : Int))), (best', ((L : Int), base, old, heavy, stop, most))) := by
  have hp2 : 2 ^ (L - 1) ≤ 2 ^ 11 := Nat.pow_le_pow_right (by omega) (by omega)
  have w1 : IntKind.wrap .i64 ((L : Int) - 1) = ((L - 1 : Nat) : Int) := by
    have h : IntKind.wrap .i64 ((L : Int) - 1) = (L : Int) - 1 := W_in _ (by omega) (by omega)
    rw [h]; omega
  have w2 : IntKind.wrap .u64 ((L - 1 : Nat) : Int) = ((L - 1 : Nat) : Int) := by rw [IntKind.wrap_u64]; omega
  have w3 : decide ((0 : Int) ≤ ((L - 1 : Nat) : Int)) = true := by simp only [decide_eq_true_eq]; omega
  have w4 : IntKind.wrap .i64 ((1 : Int) * 2 ^ min ((L - 1 : Nat) : Int).toNat 64) = ((2 ^ (L - 1) : Nat) : Int) := by
    have e : min ((L - 1 : Nat) : Int).toNat 64 = L - 1 := by omega
    have e2 : (1 : Int) * 2 ^ (L - 1) = ((2 ^ (L - 1) : Nat) : Int) := by simp
    rw [e, e2]
    exact W_in _ (by omega) (by omega)
  have w5 : decide ((n : Int) < ((2 ^ (L - 1) : Nat) : Int)) = true := by simp only [decide_eq_true_eq]; omega
  have w6 : IntKind.wrap .i64 ((n : Int) + 1) = ((n + 1 : Nat) : Int) := by
    have h : IntKind.wrap .i64 ((n : Int) + 1) = (n : Int) + 1 := W_in _ (by omega) (by omega)
    rw [h]; rfl
  have hlen := planF_len n (L - 1) 0
  have hF18 : F18_0 (((L : Int), base, old, heavy, stop, most), planF n (L - 1) 0) = some (match vS L base old heavy stop most n with | some c => (tS L stop n c, true) | none => (0, false)) := by
    obtain ⟨res, e1, e2⟩ := time_eq ((L : Int), base, old, heavy, stop, most) (by have := (okR_inv hok).len; omega) (planF n (L - 1) 0) (by omega)
    rw [e2, ← e1]
    exact F17_cs hok _ (by omega)
  have hloop := loopSet (base := base) (old := old) (heavy := heavy) (stop := stop) (most := most) L h1 h12 n time found best (L - 1) 1 (F + 1) (by omega) (by omega) (by omega)
  have e0 : F + 1 + (L - 1) = F + L := by omega
  have hp0 : planF n (1 - 1) 0 = [] := rfl
  rw [e0, hp0] at hloop
  have start : (K26_0 (F + L + 1)).1 ((time, (found, (n : Int))), (best, ((L : Int), base, old, heavy, stop, most))) = (K26_0 (F + L)).2 ((time, (found, ((n : Int), (1 : Int)))), (([] : List Int), (best, ((L : Int), base, old, heavy, stop, most)))) := by
    show B26_0_7 (K26_0 (F + L)) _ = _
    simp only [B26_0_7, w1, w2, w3, w4, w5, chk, Option.bind_some]
  have hone : ((1 : Nat) : Int) = 1 := rfl
  rw [hone] at hloop
  rw [start, hloop]
  have hnl : decide ((L : Int) < (L : Int)) = false := by simp
  have body : (K26_0 (F + 1)).2 ((time, (found, ((n : Int), (L : Int)))), (planF n (L - 1) 0, (best, ((L : Int), base, old, heavy, stop, most)))) = B26_0_11 (K26_0 F) ((time, (found, ((n : Int), (L : Int)))), (planF n (L - 1) 0, (best, ((L : Int), base, old, heavy, stop, most)))) := rfl
  rw [body]
  simp only [B26_0_11, hnl, hF18, Option.bind_some, w6]
  cases hv : vS L base old heavy stop most n with
  | none =>
    refine ⟨time, found, best, ⟨fun hf s hs => ?_, fun hf => ?_⟩, rfl⟩
    · by_cases hc : s = n
      · rw [hc]; exact hv
      · exact hg.no hf s (by omega)
    · obtain ⟨s0, c0, g1, g2, g3, g4, g5⟩ := hg.yes hf
      refine ⟨s0, c0, by omega, g2, g3, g4, fun s c hs hc => ?_⟩
      by_cases he : s = n
      · rw [he, hv] at hc; cases hc
      · exact g5 s c (by omega) hc
  | some c =>
    cases found with
    | false =>
      refine ⟨tS L stop n c, true, planF n (L - 1) 0, ⟨fun hf => (by cases hf), fun _ => ⟨n, c, by omega, rfl, hv, rfl, fun s c' hs hc => ?_⟩⟩, rfl⟩
      by_cases he : s = n
      · subst he
        rw [hv] at hc
        obtain rfl := Option.some.inj hc
        unfold betterB
        rw [if_pos rfl, if_pos rfl]
        generalize planF s (L - 1) 0 = l
        induction l with
        | nil => rfl
        | cons x l ih => simpa [lexGt] using ih
      · rw [hg.no rfl s (by omega)] at hc; cases hc
    | true =>
      obtain ⟨s0, c0, g1, g2, g3, g4, g5⟩ := hg.yes rfl
      simp only [Bool.not_true, F40_eq (planF n (L - 1) 0) best (tS L stop n c) time (by omega), Option.bind_some]
      cases hb : betterB (planF n (L - 1) 0) (tS L stop n c) best time with
      | true =>
        refine ⟨tS L stop n c, true, planF n (L - 1) 0, ⟨fun hf => (by cases hf), fun _ => ⟨n, c, by omega, rfl, hv, rfl, fun s c' hs hc => ?_⟩⟩, rfl⟩
        by_cases he : s = n
        · subst he
          rw [hv] at hc
          obtain rfl := Option.some.inj hc
          unfold betterB
          rw [if_pos rfl, if_pos rfl]
          generalize planF s (L - 1) 0 = l
          induction l with
          | nil => rfl
          | cons x l ih => simpa [lexGt] using ih
        · have := g5 s c' (by omega) hc
          cases hx : betterB (planF s (L - 1) 0) (tS L stop s c') (planF n (L - 1) 0) (tS L stop n c) with
          | false => rfl
          | true => rw [betterB_trans hx hb] at this; cases this
      | false =>
        refine ⟨time, true, best, ⟨fun hf => (by cases hf), fun _ => ⟨s0, c0, by omega, g2, g3, g4, fun s c' hs hc => ?_⟩⟩, rfl⟩
        by_cases he : s = n
        · subst he
          rw [hv] at hc
          obtain rfl := Option.some.inj hc
          exact hb
        · exact g5 s c' (by omega) hc
end
section
variable {base : Int} {old : List Int} {heavy stop most : Int}
theorem loop26 {L : Nat} (h1 : 1 ≤ L) (h12 : L ≤ 12) (hok : okR ((L : Int), base, old, heavy, stop, most) = true) : ∀ (d n : Nat) (f : Nat) (time : Int) (found : Bool) (best : List Int), d = 2 ^ (L - 1) - n → n ≤ 2 ^ (L - 1) → GoodB L base old heavy stop most n time found best →
    ∃ time' found' best', GoodB L base old heavy stop most (2 ^ (L - 1)) time' found' best' ∧ (K26_0 (f + d * (L + 1) + 1)).1 ((time, (found, (n : Int))), (best, ((L : Int), base, old, heavy, stop, most))) = some ((time', found'), best') := by
  have hp2 : 2 ^ (L - 1) ≤ 2 ^ 11 := Nat.pow_le_pow_right (by omega) (by omega)
  have hpos : (0 : Int) ≤ ((2 ^ (L - 1) : Nat) : Int) := Int.natCast_nonneg _
  intro d
  induction d with
  | zero =>
    intro n f time found best hd hn hg
    obtain rfl : n = 2 ^ (L - 1) := by omega
    refine ⟨time, found, best, hg, ?_⟩
    have w1 : IntKind.wrap .i64 ((L : Int) - 1) = ((L - 1 : Nat) : Int) := by
      have h : IntKind.wrap .i64 ((L : Int) - 1) = (L : Int) - 1 := W_in _ (by omega) (by omega)
      rw [h]; omega
    have w2 : IntKind.wrap .u64 ((L - 1 : Nat) : Int) = ((L - 1 : Nat) : Int) := by rw [IntKind.wrap_u64]; omega
    have w3 : decide ((0 : Int) ≤ ((L - 1 : Nat) : Int)) = true := by simp only [decide_eq_true_eq]; omega
    have w4 : IntKind.wrap .i64 ((1 : Int) * 2 ^ min ((L - 1 : Nat) : Int).toNat 64) = ((2 ^ (L - 1) : Nat) : Int) := by
      have e : min ((L - 1 : Nat) : Int).toNat 64 = L - 1 := by omega
      have e2 : (1 : Int) * 2 ^ (L - 1) = ((2 ^ (L - 1) : Nat) : Int) := by simp
      rw [e, e2]
      exact W_in _ (by omega) (by omega)
    have w5 : decide (((2 ^ (L - 1) : Nat) : Int) < ((2 ^ (L - 1) : Nat) : Int)) = false := by simp only [decide_eq_false_iff_not]; omega
    rw [Nat.zero_mul, Nat.add_zero]
    show B26_0_7 (K26_0 f) _ = _
    simp only [B26_0_7, w1, w2, w3, w4, w5, chk, Option.bind_some]
  | succ d ih =>
    intro n f time found best hd hn hg
    obtain ⟨t', f', b', hg', he⟩ := step26 h1 h12 hok n (by omega) time found best hg (f + d * (L + 1) + 1)
    obtain ⟨t2, f2, b2, hg2, he2⟩ := ih (n + 1) f t' f' b' (by omega) (by omega) hg'
    refine ⟨t2, f2, b2, hg2, ?_⟩
    have e : f + (d + 1) * (L + 1) + 1 = f + d * (L + 1) + 1 + L + 1 := by rw [Nat.succ_mul]; omega
    rw [e, he, he2]
/-- Both are best: so they are one. -/
theorem best_both {L : Nat} (h1 : 1 ≤ L) (h12 : L ≤ 12) (hok : okR ((L : Int), base, old, heavy, stop, most) = true) : ∃ q t, q.length ≤ 100 ∧ F25_0 ((L : Int), base, old, heavy, stop, most) = some ((t, true), q) ∧ F26_0 ((L : Int), base, old, heavy, stop, most) = some ((t, true), q) := by
  have f21 := F21_eq ((L : Int), base, old, heavy, stop, most) (by have := (okR_inv hok).len; omega)
  obtain ⟨q, t, c, e1, e2, e3, e4, e5⟩ := best_lex hok
  have hp2 : 2 ^ (L - 1) ≤ 2 ^ 11 := Nat.pow_le_pow_right (by omega) (by omega)
  have hpos : (0 : Int) ≤ ((2 ^ (L - 1) : Nat) : Int) := Int.natCast_nonneg _
  have hbound : 2 ^ (L - 1) * (L + 1) ≤ 2 ^ 11 * 13 := Nat.mul_le_mul hp2 (by omega)
  obtain ⟨t', f', b', hg, he⟩ := loop26 h1 h12 hok (2 ^ (L - 1)) 0 (40000 - 2 ^ (L - 1) * (L + 1) - 1) 0 false [] (by omega) (by omega) ⟨fun _ s hs => by omega, fun h => by cases h⟩
  have efuel : 40000 - 2 ^ (L - 1) * (L + 1) - 1 + 2 ^ (L - 1) * (L + 1) + 1 = 40000 := by omega
  rw [efuel] at he
  have h26 : F26_0 ((L : Int), base, old, heavy, stop, most) = some ((t', f'), b') := by
    have c4 : ((0 : Int) != 0) = false := rfl
    have c5 : decide ((L : Int) > 12) = false := by simp only [decide_eq_false_iff_not]; omega
    show E26_0 (K26_0 40000) _ = _
    simp only [E26_0, f21, hok, Option.bind_some, if_true, c4, c5]
    exact he
  have hr := cs_rises e3
  simp only at hr e3 e4 e5
  have hLL : ((L : Int) - 1) = ((L - 1 : Nat) : Int) := by omega
  rw [hLL] at hr
  obtain ⟨s, hs1, hs2⟩ := set_of hr
  have hvs : vS L base old heavy stop most s = some c := by unfold vS; rw [hs2]; exact e3
  have hts : tS L stop s c = t := by unfold tS; rw [hs2, e4]
  cases f' with
  | false => have := hg.no rfl s hs1; rw [hvs] at this; cases this
  | true =>
    obtain ⟨s0, c0, g1, g2, g3, g4, g5⟩ := hg.yes rfl
    have h5 := g5 s c hs1 hvs
    rw [hs2, hts] at h5
    have h6 := e5 b' c0 (by rw [g2]; exact g3)
    have hb : (b'.length : Int) * stop + c0 = t' := by rw [g4, g2]; rfl
    rw [hb] at h6
    rcases h6 with h6 | h6
    · subst h6
      have : c0 = c := by
        have g3' : cs (stintF ((L : Int), base, old, heavy, stop, most)) (L : Int) most (planF s0 (L - 1) 0) 0 = some c0 := g3
        rw [← g2, e3] at g3'
        exact (Option.some.inj g3').symm
      refine ⟨q, t, e2, e1, ?_⟩
      rw [h26, ← hb, this, e4]
    · rw [h6] at h5; cases h5
end
end Go.Proofs.Ythlnocpbdhcnlaa.Ev
