/- No plan takes less than the best one: of plans as lists of stops. -/
import Derived.Test.YthlnocpbdhcnlaaMBest2
set_option linter.unusedVariables false
set_option linter.unusedSimpArgs false
namespace Go.Proofs.Ythlnocpbdhcnlaa.Ev
open Go
/-- What the stints of a plan take together, from a lap on, if it goes. -/
def cs (st : Nat → Int) (L M : Int) : List Int → Int → Option Int
  | [], a => if a < L ∧ L - a ≤ M then some (st (L - a).toNat) else none
  | t :: q, a => if a < t ∧ t ≤ L ∧ t - a ≤ M then (cs st L M q t).map (st (t - a).toNat + ·) else none
theorem cs_lt {st : Nat → Int} {L M : Int} {q : List Int} {a c : Int} (h : cs st L M q a = some c) : a < L := by
  cases q with
  | nil => unfold cs at h; split at h; · omega
           · cases h
  | cons t q => unfold cs at h; split at h; · omega
                · cases h
theorem cs_in {st : Nat → Int} {S : Int} (hf : Fits st S) {L M : Int} (hL : L ≤ 100) : ∀ (q : List Int) (a c : Int), 0 ≤ a → cs st L M q a = some c → 0 ≤ c ∧ c + (q.length : Int) * S ≤ (L - a) * Cst := by
  have s3 := hf.slo; have s4 := hf.shi
  intro q
  induction q with
  | nil =>
    intro a c h0 h
    unfold cs at h
    split at h
    · rename_i hc
      obtain rfl := Option.some.inj h
      have s1 := hf.lo (L - a).toNat (by omega); have s2 := hf.hi (L - a).toNat (by omega)
      simp only [Cst, List.length_nil]
      omega
    · cases h
  | cons t q ih =>
    intro a c h0 h
    unfold cs at h
    split at h
    · rename_i hc
      obtain ⟨c', h1, rfl⟩ := Option.map_eq_some_iff.1 h
      have h2 := ih t c' (by omega) h1
      have s1 := hf.lo (t - a).toNat (by omega); have s2 := hf.hi (t - a).toNat (by omega)
      have e : (((t :: q).length : Nat) : Int) * S = (q.length : Int) * S + S := by
        rw [List.length_cons]
        have : ((q.length + 1 : Nat) : Int) = (q.length : Int) + 1 := by omega
        rw [this, Int.add_mul, Int.one_mul]
      rw [e]
      simp only [Cst] at h2 ⊢
      omega
    · cases h

/-! ### Time tells it -/
theorem K17_cs {r : Race} (h : RaceOk r) (p : List Int) (hp : p.length ≤ 200) : ∀ (d i n : Nat) (a x : Int), p.length - i = d → i ≤ p.length → 0 ≤ a → a ≤ r.1 → d + 2 < n →
    K17_0 n ((W x, (a, (((p ++ [r.1]).length : Int), (i : Int)))), (p ++ [r.1], r)) = some (match cs (stintF r) r.1 r.2.2.2.2.2 (p.drop i) a with | some c => (W (x + c), true) | none => (0, false)) := by
  have hl := h.laps
  have f23 := fun (m : Int) (h1 : 1 ≤ m) (h2 : m ≤ r.1) => (by
    have := F23_small h m.toNat (by omega)
    rwa [Int.toNat_of_nonneg (by omega)] at this : F23_0 (r, m) = some (stintF r m.toNat))
  obtain ⟨laps, base, old, heavy, stop, most⟩ := r
  simp only at hl f23 ⊢
  have single : ∀ (n : Nat) (i : Nat) (hi : i < (p ++ [laps]).length) (a x t : Int), (p ++ [laps])[i] = t → 0 ≤ a → a ≤ laps → (hn : i ≤ 200) →
      K17_0 (n + 1) ((W x, (a, (((p ++ [laps]).length : Int), (i : Int)))), (p ++ [laps], (laps, base, old, heavy, stop, most))) =
        if a < t ∧ t ≤ laps ∧ t - a ≤ most then K17_0 n ((W (x + stintF (laps, base, old, heavy, stop, most) (t - a).toNat), (t, (((p ++ [laps]).length : Int), ((i + 1 : Nat) : Int)))), (p ++ [laps], (laps, base, old, heavy, stop, most))) else some (0, false) := by
    intro n i hi a x t ht ha1 ha2 hn
    have hlt : decide ((i : Int) < ((p ++ [laps]).length : Int)) = true := by simp only [decide_eq_true_eq]; omega
    have hw : IntKind.wrap .i64 ((i : Int) + 1) = ((i + 1 : Nat) : Int) := by
      have h : IntKind.wrap .i64 ((i : Int) + 1) = (i : Int) + 1 := W_in _ (by omega) (by omega)
      rw [h]; rfl
    show B17_0_5 (K17_0 n) _ = _
    simp only [B17_0_5, hlt, idx_nat _ _ hi, List.getElem?_eq_getElem hi, Option.bind_some, ht]
    by_cases c1 : t ≤ a
    · have : ¬ (a < t ∧ t ≤ laps ∧ t - a ≤ most) := by omega
      simp only [c1, decide_true, if_neg this]
    · by_cases c2 : t > laps
      · have : ¬ (a < t ∧ t ≤ laps ∧ t - a ≤ most) := by omega
        simp only [c1, c2, decide_true, decide_false, if_neg this]
      · have ew : IntKind.wrap .i64 (t - a) = t - a := W_in _ (by omega) (by omega)
        simp only [c1, c2, decide_false, ew]
        by_cases c3 : t - a > most
        · have : ¬ (a < t ∧ t ≤ laps ∧ t - a ≤ most) := by omega
          simp only [c3, decide_true, if_neg this]
        · have : a < t ∧ t ≤ laps ∧ t - a ≤ most := by omega
          have e1 : IntKind.wrap .i64 (W x + stintF (laps, base, old, heavy, stop, most) (t - a).toNat) = W (x + stintF (laps, base, old, heavy, stop, most) (t - a).toNat) := W_l _ _
          simp only [c3, decide_false, if_pos this, f23 (t - a) (by omega) (by omega), Option.bind_some, hw, e1]
  intro d
  induction d with
  | zero =>
    intro i n a x h1 h2 h3 h4 h5
    obtain ⟨n, rfl⟩ : ∃ k, n = k + 2 := ⟨n - 2, by omega⟩
    obtain rfl : i = p.length := by omega
    have hi : p.length < (p ++ [laps]).length := by simp
    rw [single (n + 1) p.length hi a x laps (by simp) h3 h4 (by omega)]
    have hend : decide (((p.length + 1 : Nat) : Int) < ((p ++ [laps]).length : Int)) = false := by simp
    simp only [List.drop_length, cs]
    by_cases hc : a < laps ∧ laps - a ≤ most
    · have hc' : a < laps ∧ laps ≤ laps ∧ laps - a ≤ most := ⟨hc.1, by omega, hc.2⟩
      rw [if_pos hc, if_pos hc']
      show B17_0_5 (K17_0 n) _ = _
      simp only [B17_0_5, hend]
    · have hc' : ¬ (a < laps ∧ laps ≤ laps ∧ laps - a ≤ most) := by omega
      rw [if_neg hc, if_neg hc']
  | succ d ih =>
    intro i n a x h1 h2 h3 h4 h5
    obtain ⟨n, rfl⟩ : ∃ k, n = k + 1 := ⟨n - 1, by omega⟩
    have hip : i < p.length := by omega
    have hi : i < (p ++ [laps]).length := by simp; omega
    have hd : p.drop i = p[i] :: p.drop (i + 1) := List.drop_eq_getElem_cons hip
    rw [single n i hi a x p[i] (List.getElem_append_left hip) h3 h4 (by omega), hd]
    simp only [cs]
    by_cases hc : a < p[i] ∧ p[i] ≤ laps ∧ p[i] - a ≤ most
    · rw [if_pos hc, if_pos hc]
      rw [ih (i + 1) n p[i] _ (by omega) (by omega) (by omega) hc.2.1 (by omega)]
      cases cs (stintF (laps, base, old, heavy, stop, most)) laps most (p.drop (i + 1)) p[i] with
      | none => rfl
      | some c => simp only [Option.map_some]; congr 3; omega
    · rw [if_neg hc, if_neg hc]
theorem F17_cs {r : Race} (hok : okR r = true) (p : List Int) (hp : p.length ≤ 200) : F17_0 (r, p) = some (match cs (stintF r) r.1 r.2.2.2.2.2 p 0 with | some c => ((p.length : Int) * r.2.2.2.2.1 + c, true) | none => (0, false)) := by
  have h := okR_inv hok
  have f20 := F20_eq r (by have := h.len; omega)
  have hk := K17_cs h p hp p.length 0 1000 0 ((p.length : Int) * r.2.2.2.2.1) (by omega) (by omega) (by omega) (by have := h.laps; omega) (by omega)
  have hin := fun c => cs_in (fits_of h) h.laps.2 p 0 c (M := r.2.2.2.2.2) (by omega)
  have hl := h.laps
  have hs := h.stop
  obtain ⟨laps, base, old, heavy, stop, most⟩ := r
  simp only at hk hin hl hs
  have hc : F33_0 p = some p := by
    have : decide ((([] : List Int).length + p.length) * 8 ≤ 140737488355328) = true := by simp; omega
    simp only [F33_0, F33_r, this, chk, Option.bind_some, List.nil_append]
  have hc2 : decide ((p.length + ([laps] : List Int).length) * 8 ≤ 140737488355328) = true := by simp; omega
  have hb : ((0 : Int) != 0) = false := rfl
  show E17_0 (K17_0 1000) _ = _
  simp only [E17_0, f20, hok, Option.bind_some, if_true, hb, hc, hc2, chk]
  refine hk.trans ?_
  simp only [List.drop_zero]
  cases hcs : cs (stintF (laps, base, old, heavy, stop, most)) laps most p 0 with
  | none => rfl
  | some c =>
    have h1 := hin c hcs
    have h2 : 0 ≤ (p.length : Int) * stop := Int.mul_nonneg (by omega) hs.1
    simp only [Cst] at h1
    simp only []
    rw [W_in _ (by omega) (by omega)]
end Go.Proofs.Ythlnocpbdhcnlaa.Ev
