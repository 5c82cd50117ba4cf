/- From each sample to the next one, no one gains or slows more than the pace allows. -/
import Derived.Test.YtbmbnopgekbppaaMProfVal
set_option linter.unusedVariables false
set_option linter.unusedSimpArgs false
namespace Go.Proofs.Ytbmbnopgekbppaa.Ev
open Go

def Near (s : List P2) : Prop := ∀ q ∈ s, -2199023255552 ≤ q.1 ∧ q.1 ≤ 2199023255552 ∧ -2199023255552 ≤ q.2 ∧ q.2 ≤ 2199023255552
structure Way (n : Nat) (p w : Nat → Nat) : Prop where
  n0 : 0 < n
  pl : ∀ t, p t < n
  wl : ∀ t, w t < n
  pn : ∀ t, t ≤ n → p (n + t) = p t
  wn : ∀ t, t < n → w (n + t) = w t
  ne : ∀ t j, 0 < j → j < n → t + j ≤ 2 * n → p (t + j) ≠ p t
theorem stF_keep (s : List P2) (rate : Int) (p w : Nat → Nat) (v : List Int) (k : Nat) (hk : k < v.length) (hp : ∀ t, p t < v.length) (a : Nat) : ∀ d, (∀ i, a < i → i ≤ a + d → p i ≠ k) → (stF s rate p w v (a + d)).getD k 0 = (stF s rate p w v a).getD k 0 := by
  intro d
  induction d with
  | zero => intro _; rfl
  | succ d ih =>
    intro h
    rw [← ih (fun i h1 h2 => h i h1 (by omega))]
    show (turn _ _ _ _ _ _).1.getD k 0 = _
    rw [turn_get _ _ _ _ _ _ _ (by rw [stF_len]; exact hk) (by rw [stF_len]; exact hp _), if_neg (fun e => h (a + d + 1) (by omega) (by omega) e.symm)]
    rfl
theorem stF_rng {s : List P2} (hs : Near s) {rate : Int} (r0 : 0 ≤ rate) (r1 : rate ≤ 274877906944) {p w : Nat → Nat} (W : Way s.length p w) {v : List Int} (hl : v.length = s.length) (hv : ∀ k, k < s.length → 0 ≤ v.getD k 0 ∧ v.getD k 0 ≤ 549755813888) :
    ∀ t k, k < s.length → 0 ≤ (stF s rate p w v t).getD k 0 ∧ (stF s rate p w v t).getD k 0 ≤ 549755813888 := by
  intro t
  induction t with
  | zero => exact hv
  | succ t ih =>
    intro k hk
    show 0 ≤ (turn _ _ _ _ _ _).1.getD k 0 ∧ (turn _ _ _ _ _ _).1.getD k 0 ≤ _
    rw [turn_get _ _ _ _ _ _ _ (by rw [stF_len, hl]; exact hk) (by rw [stF_len, hl]; exact W.pl _)]
    split
    · have a := ih (p (t + 1)) (W.pl _)
      have b := ih (p t) (W.pl _)
      have f := far_b hs (W.wl t)
      rw [reach_go b.1 b.2 r0 r1 f.1 f.2]
      have g := go_nn b.1 (mulR_b (a := 2 * rate) (b := (fo s (w t)).1) (A := 549755813888) (B := 8796093022208) (by omega) (by omega) f.1 f.2).1
      have m := mn_l ((stF s rate p w v t).getD (p (t + 1)) 0) (go ((stF s rate p w v t).getD (p t) 0) (mulR (2 * rate) (fo s (w t)).1))
      refine ⟨?_, by omega⟩
      rcases mn_or ((stF s rate p w v t).getD (p (t + 1)) 0) (go ((stF s rate p w v t).getD (p t) 0) (mulR (2 * rate) (fo s (w t)).1)) with e | e <;> rw [e] <;> omega
    · exact ih k hk
theorem stF_step {s : List P2} (hs : Near s) {rate : Int} (r0 : 0 ≤ rate) (r1 : rate ≤ 274877906944) {p w : Nat → Nat} (W : Way s.length p w) {v : List Int} (hl : v.length = s.length) (hv : ∀ k, k < s.length → 0 ≤ v.getD k 0 ∧ v.getD k 0 ≤ 549755813888) (t : Nat) :
    (stF s rate p w v (t + 1)).getD (p (t + 1)) 0 = mn ((stF s rate p w v t).getD (p (t + 1)) 0) (go ((stF s rate p w v t).getD (p t) 0) (mulR (2 * rate) (fo s (w t)).1)) := by
  show (turn _ _ _ _ _ _).1.getD _ 0 = _
  have b := stF_rng hs r0 r1 W hl hv t (p t) (W.pl _)
  have f := far_b hs (W.wl t)
  rw [turn_get _ _ _ _ _ _ _ (by rw [stF_len, hl]; exact W.pl _) (by rw [stF_len, hl]; exact W.pl _), if_pos rfl, reach_go b.1 b.2 r0 r1 f.1 f.2]
theorem turns {s : List P2} (hs : Near s) {rate : Int} (r0 : 0 ≤ rate) (r1 : rate ≤ 274877906944) {p w : Nat → Nat} (W : Way s.length p w) {v : List Int} (hl : v.length = s.length) (hv : ∀ k, k < s.length → 0 ≤ v.getD k 0 ∧ v.getD k 0 ≤ 549755813888) (u : Nat → Int) (hu : ∀ t, t < s.length → u t = v.getD (p t) 0) :
    Turns s.length u (fun t => mulR (2 * rate) (fo s (w t)).1) (fun t => (stF s rate p w v t).getD (p t) 0) := by
  have n0 := W.n0
  have hpl : ∀ t, p t < v.length := fun t => by rw [hl]; exact W.pl t
  refine ⟨n0, (hu 0 n0).symm, ?_, ?_, ?_, ?_, ?_, ?_⟩
  · intro t ht
    show (stF s rate p w v (t + 1)).getD (p (t + 1)) 0 = _
    rw [stF_step hs r0 r1 W hl hv t, hu (t + 1) ht]
    have k := stF_keep s rate p w v (p (t + 1)) (hpl _) hpl 0 t (fun i h1 h2 e => W.ne i (t + 1 - i) (by omega) (by omega) (by omega) (by rw [show i + (t + 1 - i) = t + 1 by omega]; exact e.symm))
    rw [Nat.zero_add] at k
    rw [k]; rfl
  · intro t ht
    show (stF s rate p w v (s.length + t)).getD (p (s.length + t)) 0 = _
    have e := stF_step hs r0 r1 W hl hv (s.length + t - 1)
    rw [show s.length + t - 1 + 1 = s.length + t by omega] at e
    rw [e, W.pn t (by omega)]
    have k := stF_keep s rate p w v (p t) (hpl _) hpl t (s.length - 1) (fun i h1 h2 e => W.ne t (i - t) (by omega) (by omega) (by omega) (by rw [show t + (i - t) = i by omega]; exact e))
    rw [show t + (s.length - 1) = s.length + t - 1 by omega] at k
    rw [k]
  · show (stF s rate p w v (s.length + s.length)).getD (p (s.length + s.length)) 0 = _
    have e := stF_step hs r0 r1 W hl hv (s.length + s.length - 1)
    rw [show s.length + s.length - 1 + 1 = s.length + s.length by omega] at e
    rw [e, W.pn s.length (by omega)]
    have k := stF_keep s rate p w v (p s.length) (hpl _) hpl s.length (s.length - 1) (fun i h1 h2 e => W.ne s.length (i - s.length) (by omega) (by omega) (by omega) (by rw [show s.length + (i - s.length) = i by omega]; exact e))
    rw [show s.length + (s.length - 1) = s.length + s.length - 1 by omega] at k
    rw [k]
  · intro t ht; rw [hu t ht]; exact (hv _ (W.pl _)).1
  · intro t
    have f := far_b hs (W.wl t)
    exact (mulR_b (a := 2 * rate) (b := (fo s (w t)).1) (A := 549755813888) (B := 8796093022208) (by omega) (by omega) f.1 f.2).1
  · intro t ht
    show mulR (2 * rate) (fo s (w (s.length + t))).1 = mulR (2 * rate) (fo s (w t)).1
    rw [W.wn t ht]
theorem way_on {n : Nat} (n0 : 0 < n) : Way n (fun t => t % n) (fun t => t % n) := by
  refine ⟨n0, fun t => Nat.mod_lt _ n0, fun t => Nat.mod_lt _ n0, fun t _ => Nat.add_mod_left n t, fun t _ => Nat.add_mod_left n t, ?_⟩
  intro t j h1 h2 _ e
  have e' : (t + j) % n = t % n := e
  have a := Nat.mod_add_div (t + j) n
  have b := Nat.mod_add_div t n
  rw [e'] at a
  have c : n * ((t + j) / n) = n * (t / n) + j := by omega
  by_cases g : (t + j) / n ≤ t / n
  · have := Nat.mul_le_mul_left n g; omega
  · have := Nat.mul_le_mul_left n (show t / n + 1 ≤ (t + j) / n by omega)
    rw [Nat.mul_add, Nat.mul_one] at this
    omega
theorem way_back {n : Nat} (n0 : 0 < n) : Way n (fun t => (2 * n - t) % n) (fun t => (2 * n - t - 1) % n) := by
  refine ⟨n0, fun t => Nat.mod_lt _ n0, fun t => Nat.mod_lt _ n0, ?_, ?_, ?_⟩
  · intro t ht
    show (2 * n - (n + t)) % n = (2 * n - t) % n
    rw [show 2 * n - t = n + (2 * n - (n + t)) by omega, Nat.add_mod_left]
  · intro t ht
    show (2 * n - (n + t) - 1) % n = (2 * n - t - 1) % n
    rw [show 2 * n - t - 1 = n + (2 * n - (n + t) - 1) by omega, Nat.add_mod_left]
  · intro t j h1 h2 h3 e
    have := (way_on n0).ne (2 * n - (t + j)) j h1 h2 (by omega)
    rw [show 2 * n - (t + j) + j = 2 * n - t by omega] at this
    exact this e.symm
/-- The speeds, from each place to the next one. -/
theorem steps_ok {s : List P2} (hs : Near s) (n0 : 0 < s.length) (hn : s.length ≤ 100) {gain slow : Int} (g0 : 0 ≤ gain) (g1 : gain ≤ 274877906944) (s0 : 0 ≤ slow) (s1 : slow ≤ 274877906944) {v : List Int} (hl : v.length = s.length) (hv : ∀ k, k < s.length → 0 ≤ v.getD k 0 ∧ v.getD k 0 ≤ 549755813888) (i : Nat) (hi : i < s.length) (r : List Int) (hr : r = (backV s slow (2 * s.length) (onV s gain (2 * s.length) 0 v).1).1) :
    r.length = s.length ∧ (∀ k, k < s.length → 0 ≤ r.getD k 0 ∧ r.getD k 0 ≤ v.getD k 0) ∧ r.getD ((i + 1) % s.length) 0 ≤ go (r.getD i 0) (mulR (2 * gain) (fo s i).1) + 262144 ∧ r.getD i 0 ≤ go (r.getD ((i + 1) % s.length) 0) (mulR (2 * slow) (fo s i).1) + 262144 := by
  have A := onV_st s gain v (2 * s.length) 0
  rw [Nat.zero_add] at A
  have W1 := way_on n0
  have W2 := way_back n0
  have T := turns hs g0 g1 W1 hl hv (fun t => v.getD (t % s.length) 0) (fun t _ => rfl)
  have A' : (onV s gain (2 * s.length) 0 v).1 = stF s gain (fun t => t % s.length) (fun t => t % s.length) v (2 * s.length) := A
  rw [A'] at hr
  have hm1 : ∀ k, k < s.length → (stF s gain (fun t => t % s.length) (fun t => t % s.length) v (2 * s.length)).getD k 0 ≤ v.getD k 0 := fun k hk => stF_mono _ _ _ _ _ _ (by omega) (fun t => by rw [hl]; exact W1.pl t) _
  generalize hst : stF s gain (fun t => t % s.length) (fun t => t % s.length) v = st at *
  have hl2 : (st (2 * s.length)).length = s.length := by rw [← hst, stF_len, hl]
  have hv2 : ∀ k, k < s.length → 0 ≤ (st (2 * s.length)).getD k 0 ∧ (st (2 * s.length)).getD k 0 ≤ 549755813888 := by
    rw [← hst]; exact stF_rng hs g0 g1 W1 hl hv (2 * s.length)
  have fin1 : ∀ t, t < s.length → (st (s.length + s.length - t)).getD ((s.length + s.length - t) % s.length) 0 = (st (2 * s.length)).getD ((2 * s.length - t) % s.length) 0 := by
    intro t ht
    rw [show s.length + s.length - t = 2 * s.length - t by omega]
    have k := stF_keep s gain (fun t => t % s.length) (fun t => t % s.length) v ((2 * s.length - t) % s.length) (by rw [hl]; exact Nat.mod_lt _ n0) (fun t => by rw [hl]; exact W1.pl t) (2 * s.length - t) t (fun i h1 h2 => by
      have := W1.ne (2 * s.length - t) (i - (2 * s.length - t)) (by omega) (by omega) (by omega)
      rw [show 2 * s.length - t + (i - (2 * s.length - t)) = i by omega] at this
      exact this)
    rw [show 2 * s.length - t + t = 2 * s.length by omega, hst] at k
    exact k.symm
  have S := turns hs s0 s1 W2 hl2 hv2 (fun k => (st (s.length + s.length - k)).getD ((s.length + s.length - k) % s.length) 0) fin1
  have B := backV_st s slow (st (2 * s.length)) (2 * s.length) (Nat.le_refl _)
  rw [Nat.sub_self] at B
  have B' : (backV s slow (2 * s.length) (st (2 * s.length))).1 = stF s slow (fun t => (2 * s.length - t) % s.length) (fun t => (2 * s.length - t - 1) % s.length) (st (2 * s.length)) (2 * s.length) := B
  rw [B'] at hr
  have hrl : r.length = s.length := by rw [hr, stF_len, hl2]
  have rng := stF_rng hs s0 s1 W2 hl2 hv2 (2 * s.length)
  have hm2 : ∀ k, k < s.length → r.getD k 0 ≤ (st (2 * s.length)).getD k 0 := fun k hk => by rw [hr]; exact stF_mono _ _ _ _ _ _ (by omega) (fun t => by rw [hl2]; exact W2.pl t) _
  rw [← hr] at rng
  have fin2 : ∀ k, k < s.length → (stF s slow (fun t => (2 * s.length - t) % s.length) (fun t => (2 * s.length - t - 1) % s.length) (st (2 * s.length)) (s.length + (s.length - k))).getD ((2 * s.length - (s.length + (s.length - k))) % s.length) 0 = r.getD k 0 := by
    intro k hk
    rw [show s.length + (s.length - k) = 2 * s.length - k by omega, show 2 * s.length - (2 * s.length - k) = k by omega, Nat.mod_eq_of_lt hk, hr]
    have q := stF_keep s slow (fun t => (2 * s.length - t) % s.length) (fun t => (2 * s.length - t - 1) % s.length) (st (2 * s.length)) k (by omega) (fun t => by rw [hl2]; exact W2.pl t) (2 * s.length - k) k (fun i h1 h2 => by
      have := W2.ne (2 * s.length - k) (i - (2 * s.length - k)) (by omega) (by omega) (by omega)
      rw [show 2 * s.length - k + (i - (2 * s.length - k)) = i by omega] at this
      intro e
      apply this
      show (2 * s.length - i) % s.length = (2 * s.length - (2 * s.length - k)) % s.length
      rw [show 2 * s.length - (2 * s.length - k) = k by omega, Nat.mod_eq_of_lt hk]
      exact e)
    rw [show 2 * s.length - k + k = 2 * s.length by omega] at q
    exact q.symm
  have fn := both (show s.length ≤ 200 by omega) T S i hi
  have f1 := fin2 i hi
  have f2 := fin2 ((i + 1) % s.length) (Nat.mod_lt _ n0)
  rw [f1, f2, Nat.mod_eq_of_lt hi, show 2 * s.length - (s.length - 1 - i) - 1 = s.length + i by omega, Nat.add_mod_left, Nat.mod_eq_of_lt hi] at fn
  refine ⟨hrl, fun k hk => ⟨(rng k hk).1, Int.le_trans (hm2 k hk) (hm1 k hk)⟩, fn⟩
/-- What Speeds gives. -/
theorem speeds_ok {s : List P2} (hs : Near s) (n0 : 0 < s.length) (hn : s.length ≤ 100) (p : Pc) (h1 : 268435456 ≤ p.1 ∧ p.1 ≤ 274877906944) (h2 : 0 ≤ p.2.1 ∧ p.2.1 ≤ 274877906944) (h3 : 0 ≤ p.2.2.1 ∧ p.2.2.1 ≤ 274877906944) (h4 : 4294967296 ≤ p.2.2.2 ∧ p.2.2.2 ≤ 549755813888) (i : Nat) (hi : i < s.length) :
    (spV s p).length = s.length ∧ (∀ k, k < s.length → 0 ≤ (spV s p).getD k 0 ∧ (spV s p).getD k 0 ≤ (lmP s p k).1 ∧ (lmP s p k).1 ≤ p.2.2.2) ∧ (spV s p).getD ((i + 1) % s.length) 0 ≤ go ((spV s p).getD i 0) (mulR (2 * p.2.1) (fo s i).1) + 262144 ∧ (spV s p).getD i 0 ≤ go ((spV s p).getD ((i + 1) % s.length) 0) (mulR (2 * p.2.2.1) (fo s i).1) + 262144 := by
  have h64 : ∀ q ∈ s, P64 q := fun q hq => by have := hs q hq; exact ⟨by unfold I64; omega, by unfold I64; omega⟩
  have i1 : I64 p.1 := by unfold I64; omega
  have i4 : I64 p.2.2.2 := by unfold I64; omega
  have lk := limL_ok s h64 p i1 i4 s.length 0 (by omega)
  have hlim : ∀ k, k < s.length → (limL s p s.length 0).getD k 0 = (lmP s p k).1 := fun k hk => by rw [limL_get s p s.length 0 k hk, Nat.zero_add]
  have hv : ∀ k, k < s.length → 0 ≤ (limL s p s.length 0).getD k 0 ∧ (limL s p s.length 0).getD k 0 ≤ 549755813888 := fun k hk => by
    rw [hlim k hk]
    have := lm_nn s h64 p i1 i4 (by omega) hk
    omega
  have r := steps_ok hs n0 hn h2.1 h2.2 h3.1 h3.2 lk.1 hv i hi (spV s p) rfl
  refine ⟨r.1, fun k hk => ⟨(r.2.1 k hk).1, ?_, (lm_nn s h64 p i1 i4 (by omega) hk).2⟩, r.2.2⟩
  have := (r.2.1 k hk).2
  rw [hlim k hk] at this
  exact this
/-! ### The laws -/
theorem near_loop (s : List P2) (hl : s.length ≤ 100) : ∀ (d i f : Nat), i + d = s.length → d < f → ∃ b, K21_0 f (s, (i : Int)) = some b ∧ (b = true → ∀ k (hk : k < s.length), i ≤ k → -2199023255552 ≤ s[k].1 ∧ s[k].1 ≤ 2199023255552 ∧ -2199023255552 ≤ s[k].2 ∧ s[k].2 ≤ 2199023255552) := by
  intro d
  induction d with
  | zero =>
    intro i f hi hf
    obtain ⟨f, rfl⟩ : ∃ q, f = q + 1 := ⟨f - 1, by omega⟩
    refine ⟨true, ?_, fun _ k hk h => by omega⟩
    show B21_0_2 (K21_0 f) _ = _
    unfold B21_0_2
    rw [decide_eq_false (by simp only []; omega), cond_false]
  | succ d ih =>
    intro i f hi hf
    obtain ⟨f, rfl⟩ : ∃ q, f = q + 1 := ⟨f - 1, by omega⟩
    have hil : i < s.length := by omega
    obtain ⟨b, e, hb⟩ := ih (i + 1) f (by omega) (by omega)
    have st : K21_0 (f + 1) (s, (i : Int)) = bif decide (s[i].1 > 2199023255552) then some false else bif decide (s[i].1 < -2199023255552) then some false else bif decide (s[i].2 > 2199023255552) then some false else bif decide (s[i].2 < -2199023255552) then some false else some b := by
      show B21_0_2 (K21_0 f) _ = _
      unfold B21_0_2
      rw [decide_eq_true (by simp only []; omega), cond_true]
      simp only [prd hil, bnd', b64 (show -9223372036854775808 ≤ (i : Int) + 1 ∧ (i : Int) + 1 ≤ 9223372036854775807 by omega)]
      rw [show ((i + 1 : Nat) : Int) = (i : Int) + 1 by omega] at e
      rw [e]
    rw [st]
    by_cases c1 : s[i].1 > 2199023255552
    · exact ⟨false, by rw [decide_eq_true c1, cond_true], fun h => by cases h⟩
    by_cases c2 : s[i].1 < -2199023255552
    · exact ⟨false, by rw [decide_eq_false c1, cond_false, decide_eq_true c2, cond_true], fun h => by cases h⟩
    by_cases c3 : s[i].2 > 2199023255552
    · exact ⟨false, by rw [decide_eq_false c1, cond_false, decide_eq_false c2, cond_false, decide_eq_true c3, cond_true], fun h => by cases h⟩
    by_cases c4 : s[i].2 < -2199023255552
    · exact ⟨false, by rw [decide_eq_false c1, cond_false, decide_eq_false c2, cond_false, decide_eq_false c3, cond_false, decide_eq_true c4, cond_true], fun h => by cases h⟩
    refine ⟨b, by rw [decide_eq_false c1, cond_false, decide_eq_false c2, cond_false, decide_eq_false c3, cond_false, decide_eq_false c4, cond_false], fun h k hk hik => ?_⟩
    by_cases ek : k = i
    · subst ek; omega
    · exact hb h k hk (by omega)
theorem near_p (s : List P2) (hl : s.length ≤ 100) : ∃ b, F21_0 s = some b ∧ (b = true → Near s) := by
  obtain ⟨b, e, h⟩ := near_loop s hl s.length 0 1000 (by omega) (by omega)
  refine ⟨b, e, fun hb q hq => ?_⟩
  obtain ⟨k, hk, rfl⟩ := List.mem_iff_getElem.1 hq
  exact h hb k hk (Nat.zero_le _)
theorem lims_loop {s : List P2} (hs : Near s) (hn : s.length ≤ 100) (p : Pc) (h1 : 268435456 ≤ p.1 ∧ p.1 ≤ 274877906944) (h2 : 0 ≤ p.2.1 ∧ p.2.1 ≤ 274877906944) (h3 : 0 ≤ p.2.2.1 ∧ p.2.2.1 ≤ 274877906944) (h4 : 4294967296 ≤ p.2.2.2 ∧ p.2.2.2 ≤ 549755813888) : ∀ (d i f : Nat) (o : Bool), i + d = s.length → d < f →
    K6_0 f ((s, ((s.length : Int), (i : Int))), (spV s p, (o, p))) = some true := by
  intro d
  induction d with
  | zero =>
    intro i f o hi hf
    obtain ⟨f, rfl⟩ : ∃ q, f = q + 1 := ⟨f - 1, by omega⟩
    show B6_0_9 (K6_0 f) _ = _
    unfold B6_0_9
    rw [decide_eq_false (by simp only []; omega), cond_false]
    simp only [awake52, bnd']
  | succ d ih =>
    intro i f o hi hf
    obtain ⟨f, rfl⟩ : ∃ q, f = q + 1 := ⟨f - 1, by omega⟩
    have hil : i < s.length := by omega
    have h64 : ∀ q ∈ s, P64 q := fun q hq => by have := hs q hq; exact ⟨by unfold I64; omega, by unfold I64; omega⟩
    have i1 : I64 p.1 := by unfold I64; omega
    have i4 : I64 p.2.2.2 := by unfold I64; omega
    obtain ⟨sl, sk, _⟩ := speeds_ok hs (by omega) hn p h1 h2 h3 h4 i hil
    have sk' := sk i hil
    have hpv : prv s.length i < s.length := Nat.mod_lt _ (by omega)
    have hn := nxt_lt hil
    have hil' : i < (spV s p).length := by omega
    have tm : Int.tmod ((i : Int) + (s.length : Int) - 1) (s.length : Int) = ((prv s.length i : Nat) : Int) := by
      unfold prv
      rw [tmod_nn (by omega), show (i : Int) + (s.length : Int) - 1 = ((i + s.length - 1 : Nat) : Int) by omega, ← Int.natCast_emod]
    have tm2 : Int.tmod ((i : Int) + 1) (s.length : Int) = ((nxt s.length i : Nat) : Int) := by
      unfold nxt
      rw [tmod_nn (by omega), show (i : Int) + 1 = ((i + 1 : Nat) : Int) by omega, ← Int.natCast_emod]
    show B6_0_9 (K6_0 f) _ = _
    unfold B6_0_9
    rw [decide_eq_true (by simp only []; omega), cond_true]
    simp only [b64 (show -9223372036854775808 ≤ (i : Int) + (s.length : Int) ∧ (i : Int) + (s.length : Int) ≤ 9223372036854775807 by omega), b64 (show -9223372036854775808 ≤ (i : Int) + (s.length : Int) - 1 ∧ (i : Int) + (s.length : Int) - 1 ≤ 9223372036854775807 by omega), b64 (show -9223372036854775808 ≤ (i : Int) + 1 ∧ (i : Int) + 1 ≤ 9223372036854775807 by omega), show ((s.length : Int) != 0) = true from bne_iff_ne.2 (by omega), chk, bnd', tm, tm2, prd hpv, prd hil, prd hn, getP hpv, getP hil, getP hn, ((bnd_eq s h64 hil).2 _).1, ((lm_eq s h64 p i1 i4 hil).2 _).1, pidx hil', List.getElem?_eq_getElem hil', getV hil']
    rw [decide_eq_false (show ¬ (spV s p).getD i 0 > (lmP s p i).1 by omega), cond_false, decide_eq_false (show ¬ (spV s p).getD i 0 < 0 by omega), cond_false, decide_eq_false (show ¬ (spV s p).getD i 0 > p.2.2.2 by omega), cond_false]
    have := ih (i + 1) f (o || (bndP s i).2 || (lmP s p i).2) (by omega) (by omega)
    rw [show ((i + 1 : Nat) : Int) = (i : Int) + 1 by omega] at this
    exact this
theorem spE (K) (p : Pc) (h : F14_0 p = some 0) : E13_0 K (([], p), false) = some ([], false) := by
  unfold E13_0
  simp only [h, bnd']
  rfl
theorem lims_nil (p : Pc) (n : Nat) (o : Bool) : K6_0 (n + 1) (([], (((0 : Nat) : Int), (0 : Int))), ([], (o, p))) = some true := by
  show B6_0_9 (K6_0 n) _ = _
  unfold B6_0_9
  rw [decide_eq_false (by simp only []; omega), cond_false]
  simp only [awake52, bnd']
theorem coreProfileLimits (v) (h : Dom6_0 v) (n : Nat) (hn : 200 < n) : E6_0 (K6_0 n) v = some true := by
  obtain ⟨s, p⟩ := v
  obtain ⟨⟨_, hs⟩, h2, h3, h4, h5⟩ := h
  have hs' : ∀ q ∈ s, P64 q := fun x hx => ⟨pwf64 (hs x hx).1, pwf64 (hs x hx).2⟩
  unfold E6_0
  simp only []
  by_cases h1 : (s.length : Int) > 100
  · rw [decide_eq_true h1, cond_true, awake52, bnd']
  rw [decide_eq_false h1, cond_false]
  obtain ⟨b, e, hb⟩ := near_p s (by omega)
  rw [e, bnd']
  cases b with
  | false => rw [Bool.not_false, cond_true, awake52, bnd']
  | true =>
    rw [Bool.not_true, cond_false]
    obtain ⟨r, e1, _⟩ := right_same p
    rw [e1, bnd']
    by_cases he : r = 0
    case neg => rw [show (r != 0) = true from bne_iff_ne.2 he, cond_true, awake52, bnd']
    subst he
    rw [show ((0 : Int) != 0) = false from rfl, cond_false]
    have R := right_ok e1
    by_cases hz : s.length = 0
    · obtain rfl := List.eq_nil_of_length_eq_zero hz
      have : F13_0 (([], p), false) = some ([], false) := spE _ p e1
      rw [this, bnd']
      obtain ⟨n, rfl⟩ : ∃ q, n = q + 1 := ⟨n - 1, by omega⟩
      simp only [List.length_nil, bne_self_eq_false, cond_false]
      exact lims_nil p n false
    · obtain ⟨o', e2⟩ := speeds_val s p hs' (by omega) (pwf64 h2) (pwf64 h3) (pwf64 h4) (pwf64 h5) e1 (by omega) false
      have sl := (speeds_ok (hb rfl) (by omega) (by omega) p R.1 R.2.1 R.2.2.1 R.2.2.2 0 (by omega)).1
      rw [e2, bnd']
      simp only [sl]
      rw [show ((s.length : Int) != (s.length : Int)) = false by simp, cond_false]
      exact lims_loop (hb rfl) (by omega) p R.1 R.2.1 R.2.2.1 R.2.2.2 s.length 0 n o' (by omega) (by omega)
theorem law6_0 (v) (h : Dom6_0 v) : F6_0 v = some true := coreProfileLimits v h 1000 (by decide)
theorem way_len {a b : P2} (ha : P64 a) (hb : P64 b) (o : Bool) : F22_0 ((sat (b.1 - a.1), sat (b.2 - a.2)), o || ovf (b.1 - a.1) || ovf (b.2 - a.2)) = some ((farP a b).1, o || (farP a b).2) := by
  have e := ((far_eq ha hb).2 o).1
  unfold F28_0 F27_0 at e
  simp only [sub_p hb.1 ha.1, sub_p hb.2 ha.2, bnd'] at e
  cases hx : F22_0 ((sat (b.1 - a.1), sat (b.2 - a.2)), o || ovf (b.1 - a.1) || ovf (b.2 - a.2)) with
  | none => rw [hx] at e; cases e
  | some r => rw [hx, bnd'] at e; exact e
theorem sqrt_go {y r w : Int} (hy : 0 ≤ y) (hy2 : y ≤ 549755813888) (hr : 0 ≤ r) (hr2 : r ≤ 274877906944) (hw : 0 ≤ w) (hw2 : w ≤ 8796093022208) : F24_0 (sat (mulS y y + mulS (2 * r) w)) = some (go y (mulR (2 * r) w)) ∧ go y (mulR (2 * r) w) ≤ 4611686018427387904 := by
  have m1 := mulR_b hy hy2 hy hy2
  have m2 := mulR_b (a := 2 * r) (b := w) (A := 549755813888) (B := 8796093022208) (by omega) (by omega) hw hw2
  have e : sat (mulS y y + mulS (2 * r) w) = mulR y y + mulR (2 * r) w := by
    unfold mulS
    rw [sat_in (show I64 (mulR y y) by unfold I64; omega), sat_in (show I64 (mulR (2 * r) w) by unfold I64; omega), sat_in (show I64 (mulR y y + mulR (2 * r) w) by unfold I64; omega)]
  rw [e, sqrt_rt (by unfold I64; omega) (by omega)]
  refine ⟨rfl, ?_⟩
  have g := go_ok hy m2.1
  by_cases hh : go y (mulR (2 * r) w) ≤ 4611686018427387904
  · exact hh
  · have := sq_le (a := 4611686018427387904) (b := go y (mulR (2 * r) w)) (by omega) (by omega)
    have := g.2.1
    generalize go y (mulR (2 * r) w) * go y (mulR (2 * r) w) = G at *
    omega
theorem steps_loop {s : List P2} (hs : Near s) (hn : s.length ≤ 100) (p : Pc) (h1 : 268435456 ≤ p.1 ∧ p.1 ≤ 274877906944) (h2 : 0 ≤ p.2.1 ∧ p.2.1 ≤ 274877906944) (h3 : 0 ≤ p.2.2.1 ∧ p.2.2.1 ≤ 274877906944) (h4 : 4294967296 ≤ p.2.2.2 ∧ p.2.2.2 ≤ 549755813888) : ∀ (d i f : Nat) (o : Bool), i + d = s.length → d < f →
    K7_0 f ((s, ((s.length : Int), (i : Int))), (spV s p, (o, p))) = some true := by
  intro d
  induction d with
  | zero =>
    intro i f o hi hf
    obtain ⟨f, rfl⟩ : ∃ q, f = q + 1 := ⟨f - 1, by omega⟩
    show B7_0_9 (K7_0 f) _ = _
    unfold B7_0_9
    rw [decide_eq_false (by simp only []; omega), cond_false]
    simp only [awake52, bnd']
  | succ d ih =>
    intro i f o hi hf
    obtain ⟨f, rfl⟩ : ∃ q, f = q + 1 := ⟨f - 1, by omega⟩
    have hil : i < s.length := by omega
    have h64 : ∀ q ∈ s, P64 q := fun q hq => by have := hs q hq; exact ⟨by unfold I64; omega, by unfold I64; omega⟩
    obtain ⟨sl, sk, se1, se2⟩ := speeds_ok hs (by omega) hn p h1 h2 h3 h4 i hil
    have hn' := nxt_lt hil
    have ki := sk i hil
    have kn := sk _ hn'
    have hil' : i < (spV s p).length := by omega
    have hnl' : nxt s.length i < (spV s p).length := by omega
    have tm2 : Int.tmod ((i : Int) + 1) (s.length : Int) = ((nxt s.length i : Nat) : Int) := by
      unfold nxt
      rw [tmod_nn (by omega), show (i : Int) + 1 = ((i + 1 : Nat) : Int) by omega, ← Int.natCast_emod]
    have f' := far_b hs hil
    have pa := at64 h64 hil
    have pb := at64 h64 hn'
    have g1 := sqrt_go (y := (spV s p).getD i 0) ki.1 (by omega) h2.1 h2.2 f'.1 f'.2
    have g2 := sqrt_go (y := (spV s p).getD (nxt s.length i) 0) kn.1 (by omega) h3.1 h3.2 f'.1 f'.2
    have gn1 : 0 ≤ go ((spV s p).getD i 0) (mulR (2 * p.2.1) (fo s i).1) := go_nn ki.1 (mulR_b (a := 2 * p.2.1) (b := (fo s i).1) (A := 549755813888) (B := 8796093022208) (by omega) (by omega) f'.1 f'.2).1
    have gn2 : 0 ≤ go ((spV s p).getD (nxt s.length i) 0) (mulR (2 * p.2.2.1) (fo s i).1) := go_nn kn.1 (mulR_b (a := 2 * p.2.2.1) (b := (fo s i).1) (A := 549755813888) (B := 8796093022208) (by omega) (by omega) f'.1 f'.2).1
    have v1 : I64 ((spV s p).getD i 0) := by unfold I64; omega
    have v2 : I64 ((spV s p).getD (nxt s.length i) 0) := by unfold I64; omega
    have r1 : I64 (2 * p.2.1) := by unfold I64; omega
    have r2 : I64 (2 * p.2.2.1) := by unfold I64; omega
    have fw : I64 (fo s i).1 := by unfold I64; omega
    have wl := fun o => way_len pa pb o
    have e1 : (spV s p).getD (nxt s.length i) 0 ≤ go ((spV s p).getD i 0) (mulR (2 * p.2.1) (fo s i).1) + 262144 := se1
    have e2 : (spV s p).getD i 0 ≤ go ((spV s p).getD (nxt s.length i) 0) (mulR (2 * p.2.2.1) (fo s i).1) + 262144 := se2
    have wl' : ∀ o, F22_0 ((sat ((s.getD (nxt s.length i) (0, 0)).1 - (s.getD i (0, 0)).1), sat ((s.getD (nxt s.length i) (0, 0)).2 - (s.getD i (0, 0)).2)), o || ovf ((s.getD (nxt s.length i) (0, 0)).1 - (s.getD i (0, 0)).1) || ovf ((s.getD (nxt s.length i) (0, 0)).2 - (s.getD i (0, 0)).2)) = some ((fo s i).1, o || (fo s i).2) := wl
    show B7_0_9 (K7_0 f) _ = _
    unfold B7_0_9
    rw [decide_eq_true (by simp only []; omega), cond_true]
    simp only [b64 (show -9223372036854775808 ≤ (i : Int) + 1 ∧ (i : Int) + 1 ≤ 9223372036854775807 by omega), show ((s.length : Int) != 0) = true from bne_iff_ne.2 (by omega), chk, bnd', tm2, prd hil, prd hn', getP hil, getP hn', sub_p pb.1 pa.1, sub_p pb.2 pa.2, wl', pidx hil', pidx hnl', List.getElem?_eq_getElem hil', List.getElem?_eq_getElem hnl', getV hil', getV hnl', b64 (show -9223372036854775808 ≤ 2 * p.2.1 ∧ 2 * p.2.1 ≤ 9223372036854775807 by omega), b64 (show -9223372036854775808 ≤ 2 * p.2.2.1 ∧ 2 * p.2.2.1 ≤ 9223372036854775807 by omega), mul_p v1 v1, mul_p v2 v2, mul_p r1 fw, mul_p r2 fw, add_p (mulS_i64 _ _) (mulS_i64 _ _), g1.1, g2.1, b64 (show -9223372036854775808 ≤ go ((spV s p).getD i 0) (mulR (2 * p.2.1) (fo s i).1) + 262144 ∧ go ((spV s p).getD i 0) (mulR (2 * p.2.1) (fo s i).1) + 262144 ≤ 9223372036854775807 by omega), b64 (show -9223372036854775808 ≤ go ((spV s p).getD (nxt s.length i) 0) (mulR (2 * p.2.2.1) (fo s i).1) + 262144 ∧ go ((spV s p).getD (nxt s.length i) 0) (mulR (2 * p.2.2.1) (fo s i).1) + 262144 ≤ 9223372036854775807 by omega)]
    rw [decide_eq_false (show ¬ (spV s p).getD (nxt s.length i) 0 > go ((spV s p).getD i 0) (mulR (2 * p.2.1) (fo s i).1) + 262144 by omega), cond_false, decide_eq_false (show ¬ (spV s p).getD i 0 > go ((spV s p).getD (nxt s.length i) 0) (mulR (2 * p.2.2.1) (fo s i).1) + 262144 by omega), cond_false]
    have := fun o => ih (i + 1) f o (by omega) (by omega)
    rw [show ((i + 1 : Nat) : Int) = (i : Int) + 1 by omega] at this
    exact this _
theorem steps_nil (p : Pc) (n : Nat) (o : Bool) : K7_0 (n + 1) (([], (((0 : Nat) : Int), (0 : Int))), ([], (o, p))) = some true := by
  show B7_0_9 (K7_0 n) _ = _
  unfold B7_0_9
  rw [decide_eq_false (by simp only []; omega), cond_false]
  simp only [awake52, bnd']
theorem coreProfileSteps (v) (h : Dom7_0 v) (n : Nat) (hn : 200 < n) : E7_0 (K7_0 n) v = some true := by
  obtain ⟨s, p⟩ := v
  obtain ⟨⟨_, hs⟩, h2, h3, h4, h5⟩ := h
  have hs' : ∀ q ∈ s, P64 q := fun x hx => ⟨pwf64 (hs x hx).1, pwf64 (hs x hx).2⟩
  unfold E7_0
  simp only []
  by_cases h1 : (s.length : Int) > 100
  · rw [decide_eq_true h1, cond_true, awake52, bnd']
  rw [decide_eq_false h1, cond_false]
  obtain ⟨b, e, hb⟩ := near_p s (by omega)
  rw [e, bnd']
  cases b with
  | false => rw [Bool.not_false, cond_true, awake52, bnd']
  | true =>
    rw [Bool.not_true, cond_false]
    obtain ⟨r, e1, _⟩ := right_same p
    rw [e1, bnd']
    by_cases he : r = 0
    case neg => rw [show (r != 0) = true from bne_iff_ne.2 he, cond_true, awake52, bnd']
    subst he
    rw [show ((0 : Int) != 0) = false from rfl, cond_false]
    have R := right_ok e1
    by_cases hz : s.length = 0
    · obtain rfl := List.eq_nil_of_length_eq_zero hz
      have : F13_0 (([], p), false) = some ([], false) := spE _ p e1
      rw [this, bnd']
      obtain ⟨n, rfl⟩ : ∃ q, n = q + 1 := ⟨n - 1, by omega⟩
      simp only [List.length_nil, bne_self_eq_false, cond_false]
      exact steps_nil p n false
    · obtain ⟨o', e2⟩ := speeds_val s p hs' (by omega) (pwf64 h2) (pwf64 h3) (pwf64 h4) (pwf64 h5) e1 (by omega) false
      have sl := (speeds_ok (hb rfl) (by omega) (by omega) p R.1 R.2.1 R.2.2.1 R.2.2.2 0 (by omega)).1
      rw [e2, bnd']
      simp only [sl]
      rw [show ((s.length : Int) != (s.length : Int)) = false by simp, cond_false]
      exact steps_loop (hb rfl) (by omega) p R.1 R.2.1 R.2.2.1 R.2.2.2 s.length 0 n o' (by omega) (by omega)
theorem law7_0 (v) (h : Dom7_0 v) : F7_0 v = some true := coreProfileSteps v h 1000 (by decide)
end Go.Proofs.Ytbmbnopgekbppaa.Ev
