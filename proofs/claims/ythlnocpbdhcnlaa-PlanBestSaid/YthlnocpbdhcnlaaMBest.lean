/- What Best computes: the table of rests, row by row, and the plan that it reads off. -/
import Derived.Test.YthlnocpbdhcnlaaMPlan
set_option linter.unusedVariables false
set_option linter.unusedSimpArgs false
namespace Go.Proofs.Ythlnocpbdhcnlaa.Ev
open Go

abbrev Rest : Type := Int × Int × Int
def z3 : Rest := ((0 : Int), ((0 : Int), (0 : Int)))
def cand (st : Nat → Int) (S : Int) (b : List Rest) (left n : Nat) : Rest := (st n + (b.getD (left - n) z3).1 + (if left > n then S else 0), ((b.getD (left - n) z3).2.1 + 1, (n : Int)))
def aheadB (a b : Rest) : Bool := if a.1 = b.1 then (if a.2.1 = b.2.1 then decide (a.2.2 > b.2.2) else decide (a.2.1 < b.2.1)) else decide (a.1 < b.1)
def rowF (st : Nat → Int) (S : Int) (b : List Rest) (left : Nat) : Nat → Rest
  | 0 => z3
  | 1 => cand st S b left 1
  | n + 2 => if aheadB (cand st S b left (n + 2)) (rowF st S b left (n + 1)) then cand st S b left (n + 2) else rowF st S b left (n + 1)
def Bs (st : Nat → Int) (S : Int) (M : Nat) : Nat → List Rest
  | 0 => [z3]
  | k + 1 => Bs st S M k ++ [rowF st S (Bs st S M k) (k + 1) (min (k + 1) M)]
theorem Bs_length (st : Nat → Int) (S : Int) (M : Nat) : ∀ k, (Bs st S M k).length = k + 1 := by
  intro k
  induction k with
  | zero => rfl
  | succ k ih => simp [Bs, ih]
theorem F39_eq (a b : Rest) : F39_0 (a, b) = some (aheadB a b) := by
  obtain ⟨a1, a2, a3⟩ := a
  obtain ⟨b1, b2, b3⟩ := b
  unfold F39_0 aheadB
  simp only
  by_cases h1 : a1 = b1
  · subst h1
    by_cases h2 : a2 = b2
    · subst h2; simp
    · have : (a2 != b2) = true := by simp [h2]
      simp [h2, this]
  · have : (a1 != b1) = true := by simp [h1]
    simp [h1, this]

/-! ### Bounds -/
def Cst : Int := 54 * 281474976710656
structure Fits (st : Nat → Int) (S : Int) : Prop where
  lo : ∀ n, n ≤ 100 → 0 ≤ st n
  hi : ∀ n, n ≤ 100 → st n ≤ (n : Int) * (53 * 281474976710656)
  slo : 0 ≤ S
  shi : S ≤ 281474976710656
structure RestOk (i : Nat) (x : Rest) : Prop where
  tlo : 0 ≤ x.1
  thi : x.1 ≤ (i : Int) * Cst
  slo : 0 ≤ x.2.1
  shi : x.2.1 ≤ (i : Int)
  flo : 1 ≤ i → 1 ≤ x.2.2
  fhi : x.2.2 ≤ (i : Int)
theorem z3_ok (i : Nat) : i = 0 → RestOk i z3 := by
  intro h
  subst h
  exact ⟨by decide, by simp [z3], by decide, by decide, fun h => by omega, by decide⟩
theorem cand_ok {st : Nat → Int} {S : Int} (hf : Fits st S) {b : List Rest} {left n : Nat} (h1 : 1 ≤ n) (h2 : n ≤ left) (h3 : left ≤ 100) (hb : RestOk (left - n) (b.getD (left - n) z3)) : RestOk left (cand st S b left n) := by
  have e : ((left - n : Nat) : Int) = (left : Int) - (n : Int) := by omega
  have b1 := hb.tlo; have b2 := hb.thi; have b3 := hb.slo; have b4 := hb.shi
  have s1 := hf.lo n (by omega); have s2 := hf.hi n (by omega); have s3 := hf.slo; have s4 := hf.shi
  rw [e] at b2 b4
  simp only [Cst] at b2
  refine ⟨?_, ?_, ?_, ?_, fun _ => ?_, ?_⟩ <;> simp only [cand, Cst]
  · split <;> omega
  · split <;> omega
  · omega
  · omega
  · omega
  · omega
theorem rowF_ok {st : Nat → Int} {S : Int} (hf : Fits st S) {b : List Rest} {left : Nat} (h3 : left ≤ 100) (hb : ∀ j, j < left → RestOk j (b.getD j z3)) : ∀ n, 1 ≤ n → n ≤ left → RestOk left (rowF st S b left n) := by
  intro n
  induction n with
  | zero => intro h; omega
  | succ n ih =>
    intro h1 h2
    cases n with
    | zero => exact cand_ok hf (by omega) h2 h3 (hb _ (by omega))
    | succ n =>
      simp only [rowF]
      split
      · exact cand_ok hf (by omega) h2 h3 (hb _ (by omega))
      · exact ih (by omega) (by omega)
theorem Bs_ok {st : Nat → Int} {S : Int} (hf : Fits st S) {M : Nat} (hM : 1 ≤ M) : ∀ k, k ≤ 100 → ∀ j, j ≤ k → RestOk j ((Bs st S M k).getD j z3) := by
  intro k
  induction k with
  | zero =>
    intro _ j hj
    obtain rfl : j = 0 := by omega
    exact z3_ok 0 rfl
  | succ k ih =>
    intro hk j hj
    have hl := Bs_length st S M k
    by_cases hc : j ≤ k
    · have := ih (by omega) j hc
      simp only [Bs, List.getD_eq_getElem?_getD]
      rw [List.getElem?_append_left (by omega), ← List.getD_eq_getElem?_getD]
      exact this
    · obtain rfl : j = k + 1 := by omega
      simp only [Bs, List.getD_eq_getElem?_getD]
      rw [List.getElem?_append_right (by omega), hl, Nat.sub_self]
      exact rowF_ok hf hk (fun j hj => ih (by omega) j (by omega)) _ (by omega) (by omega)

/-! ### The loops -/
theorem set_mid {α : Type} (a : List α) (x y : α) (c : List α) : (a ++ x :: c).set a.length y = a ++ y :: c := by
  induction a with
  | nil => rfl
  | cons h t ih => simp [ih]
theorem get_mid {α : Type} (a : List α) (x : α) (c : List α) : (a ++ x :: c)[a.length]? = some x := by simp
section
variable {laps base : Int} {old : List Int} {heavy stop most : Int}
/-- The first loop: all stints. -/
theorem loop5 (st : Nat → Int) (L : Nat) (hL : laps = (L : Int)) (h100 : L ≤ 100) (hst : ∀ i, i ≤ L → F23_0 ((laps, base, old, heavy, stop, most), (i : Int)) = some (st i)) :
    ∀ (d i f : Nat), d = L + 1 - i → i ≤ L + 1 → (K25_0 (f + d + 1)).1 ((((L + 1 : Nat) : Int), (i : Int)), ((List.range i).map st ++ List.replicate d 0, (laps, base, old, heavy, stop, most))) =
      (K25_0 f).2.1 ((1 : Int), (List.replicate (L + 1) z3, ((List.range (L + 1)).map st, (laps, base, old, heavy, stop, most)))) := by
  intro d
  induction d with
  | zero =>
    intro i f h1 h2
    obtain rfl : i = L + 1 := by omega
    have hlt : decide (((L + 1 : Nat) : Int) < ((L + 1 : Nat) : Int)) = false := by simp
    have hw : IntKind.wrap .i64 (laps + 1) = ((L + 1 : Nat) : Int) := by
      have h := W_in (laps + 1) (by omega) (by omega)
      have h' : IntKind.wrap .i64 (laps + 1) = laps + 1 := h
      rw [h', hL]; rfl
    have hc : decide ((0 : Int) ≤ ((L + 1 : Nat) : Int) ∧ True ∧ ((L + 1 : Nat) : Int) * 24 ≤ 140737488355328 ∧ ((L + 1 : Nat) : Int) ≤ 9223372036854775807) = true := by
      rw [decide_eq_true_eq]
      exact ⟨by omega, trivial, by omega, by omega⟩
    show B25_0_5 (K25_0 f) _ = _
    simp only [B25_0_5, hlt, hw, hc, chk, Option.bind_some, List.replicate_zero, List.append_nil, Int.toNat_natCast, z3]
  | succ d ih =>
    intro i f h1 h2
    have hi : i < L + 1 := by omega
    have hlt : decide ((i : Int) < ((L + 1 : Nat) : Int)) = true := by simp; omega
    have hw : IntKind.wrap .i64 ((i : Int) + 1) = ((i + 1 : Nat) : Int) := by have := W_in ((i : Int) + 1) (by omega) (by omega); simpa using this
    have hlen : i < ((List.range i).map st ++ List.replicate (d + 1) (0 : Int)).length := by simp
    have hrl : ((List.range i).map st).length = i := by simp
    have hset : ((List.range i).map st ++ List.replicate (d + 1) (0 : Int)).set i (st i) = (List.range (i + 1)).map st ++ List.replicate d 0 := by
      rw [List.replicate_succ]
      have := set_mid ((List.range i).map st) 0 (st i) (List.replicate d (0 : Int))
      rw [hrl] at this
      rw [this, List.range_succ]
      simp
    have e : f + (d + 1) + 1 = (f + d + 1) + 1 := by omega
    rw [e]
    show B25_0_5 (K25_0 (f + d + 1)) _ = _
    simp only [B25_0_5, hlt, hst i (by omega), Option.bind_some, idx_nat i _ hlen, List.getElem?_eq_getElem hlen, hset, hw]
    exact ih (i + 1) f (by omega) (by omega)
/-- The inner loop: one row of the table. -/
theorem loop14 {st : Nat → Int} (hf : Fits st stop) (L M : Nat) (hL : laps = (L : Int)) (hM : most = (M : Int)) (h100 : L ≤ 100) (hM1 : 1 ≤ M) (hM100 : M ≤ 100) (k : Nat) (hk : k < L) (Z : List Rest) :
    ∀ (d n f : Nat), d = min (k + 1) M + 1 - n → 1 ≤ n → n ≤ min (k + 1) M + 1 →
      (K25_0 (f + d + 1)).2.2.1 ((((k + 1 : Nat) : Int), (n : Int)), (Bs st stop M k ++ rowF st stop (Bs st stop M k) (k + 1) (n - 1) :: Z, ((List.range (L + 1)).map st, (laps, base, old, heavy, stop, most)))) =
      (K25_0 f).2.1 (((k + 2 : Nat) : Int), (Bs st stop M k ++ rowF st stop (Bs st stop M k) (k + 1) (min (k + 1) M) :: Z, ((List.range (L + 1)).map st, (laps, base, old, heavy, stop, most)))) := by
  have hmin : (if most < ((k + 1 : Nat) : Int) then most else ((k + 1 : Nat) : Int)) = ((min (k + 1) M : Nat) : Int) := by split <;> omega
  have hbl := Bs_length st stop M k
  have hbs := Bs_ok hf hM1 k (by omega)
  intro d
  induction d with
  | zero =>
    intro n f h1 h2 h3
    obtain rfl : n = min (k + 1) M + 1 := by omega
    have hle : decide (((min (k + 1) M + 1 : Nat) : Int) ≤ ((min (k + 1) M : Nat) : Int)) = false := by simp only [decide_eq_false_iff_not]; omega
    have hw : IntKind.wrap .i64 (((k + 1 : Nat) : Int) + 1) = ((k + 2 : Nat) : Int) := by have := W_in (((k + 1 : Nat) : Int) + 1) (by omega) (by omega); rw [show IntKind.wrap .i64 (((k + 1 : Nat) : Int) + 1) = W (((k + 1 : Nat) : Int) + 1) from rfl, this]; omega
    show B25_0_14 (K25_0 f) _ = _
    simp only [B25_0_14, hmin, hle, hw, Nat.add_sub_cancel]
  | succ d ih =>
    intro n f h1 h2 h3
    have hn : n ≤ min (k + 1) M := by omega
    have hle : decide ((n : Int) ≤ ((min (k + 1) M : Nat) : Int)) = true := by simp only [decide_eq_true_eq]; omega
    have hsl : n < ((List.range (L + 1)).map st).length := by simp; omega
    have hsg : ((List.range (L + 1)).map st)[n] = st n := by simp
    have hw1 : IntKind.wrap .i64 (((k + 1 : Nat) : Int) - (n : Int)) = ((k + 1 - n : Nat) : Int) := by have := W_in (((k + 1 : Nat) : Int) - (n : Int)) (by omega) (by omega); rw [show IntKind.wrap .i64 (((k + 1 : Nat) : Int) - (n : Int)) = W (((k + 1 : Nat) : Int) - (n : Int)) from rfl, this]; omega
    let cur := Bs st stop M k ++ rowF st stop (Bs st stop M k) (k + 1) (n - 1) :: Z
    have hcl : cur.length = k + 2 + Z.length := by simp [cur, hbl]; omega
    have hil : k + 1 - n < cur.length := by omega
    have hgl : cur[k + 1 - n] = (Bs st stop M k).getD (k + 1 - n) z3 := by
      have h1 : k + 1 - n < (Bs st stop M k).length := by omega
      simp only [cur, List.getElem_append_left h1, List.getD_eq_getElem?_getD, List.getElem?_eq_getElem h1, Option.getD_some]
    have hal : k + 1 < cur.length := by omega
    have hga : cur[k + 1] = rowF st stop (Bs st stop M k) (k + 1) (n - 1) := by
      have := get_mid (Bs st stop M k) (rowF st stop (Bs st stop M k) (k + 1) (n - 1)) Z
      rw [hbl] at this
      have h2 := List.getElem?_eq_getElem hal
      simp only [cur] at h2 ⊢
      rw [this] at h2
      exact (Option.some.inj h2).symm
    have hset : ∀ y, cur.set (k + 1) y = Bs st stop M k ++ y :: Z := by
      intro y
      have := set_mid (Bs st stop M k) (rowF st stop (Bs st stop M k) (k + 1) (n - 1)) y Z
      rw [hbl] at this
      exact this
    have hrest := hbs (k + 1 - n) (by omega)
    have e1 : ((k + 1 - n : Nat) : Int) = ((k + 1 : Nat) : Int) - (n : Int) := by omega
    have b1 := hrest.tlo; have b2 := hrest.thi; have b3 := hrest.slo; have b4 := hrest.shi
    have s1 := hf.lo n (by omega); have s2 := hf.hi n (by omega); have s3 := hf.slo; have s4 := hf.shi
    rw [e1] at b2 b4
    simp only [Cst] at b2
    have hwt : IntKind.wrap .i64 (st n + ((Bs st stop M k).getD (k + 1 - n) z3).1) = st n + ((Bs st stop M k).getD (k + 1 - n) z3).1 := W_in _ (by omega) (by omega)
    have hws : IntKind.wrap .i64 (((Bs st stop M k).getD (k + 1 - n) z3).2.1 + 1) = ((Bs st stop M k).getD (k + 1 - n) z3).2.1 + 1 := W_in _ (by omega) (by omega)
    have hwS : IntKind.wrap .i64 (st n + ((Bs st stop M k).getD (k + 1 - n) z3).1 + stop) = st n + ((Bs st stop M k).getD (k + 1 - n) z3).1 + stop := W_in _ (by omega) (by omega)
    have hwn : IntKind.wrap .i64 ((n : Int) + 1) = ((n + 1 : Nat) : Int) := by have := W_in ((n : Int) + 1) (by omega) (by omega); simpa using this
    have e : f + (d + 1) + 1 = (f + d + 1) + 1 := by omega
    rw [e]
    show B25_0_14 (K25_0 (f + d + 1)) ((((k + 1 : Nat) : Int), (n : Int)), (cur, ((List.range (L + 1)).map st, (laps, base, old, heavy, stop, most)))) = _
    have next := ih (n + 1) f (by omega) (by omega) (by omega)
    rw [Nat.add_sub_cancel] at next
    simp only [B25_0_14, hmin, hle, idx_nat _ _ hsl, List.getElem?_eq_getElem hsl, hsg, hw1, idx_nat _ _ hil, List.getElem?_eq_getElem hil, hgl, hwt, hws, Option.bind_some, idx_nat _ _ hal, List.getElem?_eq_getElem hal, hga, hwn, hset, F39_eq, hwS]
    have hc : cand st stop (Bs st stop M k) (k + 1) n = (st n + ((Bs st stop M k).getD (k + 1 - n) z3).1 + (if k + 1 > n then stop else 0), (((Bs st stop M k).getD (k + 1 - n) z3).2.1 + 1, (n : Int))) := rfl
    by_cases hg : k + 1 > n
    · have hgt : decide (((k + 1 : Nat) : Int) > (n : Int)) = true := by simp only [decide_eq_true_eq]; omega
      rw [if_pos hg] at hc
      simp only [hgt]
      by_cases hn1 : n = 1
      · subst hn1
        have h11 : (((1 : Nat) : Int) == 1) = true := rfl
        simp only [h11]
        rw [← hc]
        exact next
      · have hne : ((n : Int) == 1) = false := by simp; omega
        obtain ⟨m, rfl⟩ : ∃ m, n = m + 2 := ⟨n - 2, by omega⟩
        simp only [hne]
        rw [← hc]
        have er : rowF st stop (Bs st stop M k) (k + 1) (m + 2) = if aheadB (cand st stop (Bs st stop M k) (k + 1) (m + 2)) (rowF st stop (Bs st stop M k) (k + 1) (m + 1)) then cand st stop (Bs st stop M k) (k + 1) (m + 2) else rowF st stop (Bs st stop M k) (k + 1) (m + 1) := rfl
        rw [er] at next
        have em : m + 2 - 1 = m + 1 := rfl
        simp only [em]
        cases hb : aheadB (cand st stop (Bs st stop M k) (k + 1) (m + 2)) (rowF st stop (Bs st stop M k) (k + 1) (m + 1)) with
        | true => rw [hb] at next; simpa using next
        | false => rw [hb] at next; simpa [cur, em] using next
    · have hgt : decide (((k + 1 : Nat) : Int) > (n : Int)) = false := by simp only [decide_eq_false_iff_not]; omega
      rw [if_neg hg, Int.add_zero] at hc
      simp only [hgt]
      by_cases hn1 : n = 1
      · subst hn1
        have h11 : (((1 : Nat) : Int) == 1) = true := rfl
        simp only [h11]
        rw [← hc]
        exact next
      · have hne : ((n : Int) == 1) = false := by simp; omega
        obtain ⟨m, rfl⟩ : ∃ m, n = m + 2 := ⟨n - 2, by omega⟩
        simp only [hne]
        rw [← hc]
        have er : rowF st stop (Bs st stop M k) (k + 1) (m + 2) = if aheadB (cand st stop (Bs st stop M k) (k + 1) (m + 2)) (rowF st stop (Bs st stop M k) (k + 1) (m + 1)) then cand st stop (Bs st stop M k) (k + 1) (m + 2) else rowF st stop (Bs st stop M k) (k + 1) (m + 1) := rfl
        rw [er] at next
        have em : m + 2 - 1 = m + 1 := rfl
        simp only [em]
        cases hb : aheadB (cand st stop (Bs st stop M k) (k + 1) (m + 2)) (rowF st stop (Bs st stop M k) (k + 1) (m + 1)) with
        | true => rw [hb] at next; simpa using next
        | false => rw [hb] at next; simpa [cur, em] using next
end
end Go.Proofs.Ythlnocpbdhcnlaa.Ev
