/- Numbers of 32 bits behind the point: what the program reckons. -/
import Derived.Test.YtneiaaalbpjgiaaGreatMDiv
set_option linter.unusedVariables false
set_option linter.unusedSimpArgs false
namespace Go.Proofs.YtneiaaalbpjgiaaGreat.Ev
open Go

def bnd (neg : Bool) : Int := bif neg then -9223372036854775808 else 9223372036854775807
theorem bound_p (neg o : Bool) : F72_0 (neg, o) = some (bnd neg, true) := by cases neg <;> rfl
theorem sat_bnd {n : Int} (h : ¬ I64 n) : bnd (decide (n < 0)) = sat n := by
  unfold I64 at h
  unfold sat bnd
  by_cases h0 : n < 0
  · rw [decide_eq_true h0, cond_true, if_neg (by omega), if_pos (by omega)]
  · rw [decide_eq_false h0, cond_false, if_pos (by omega)]
theorem fit_p {n : Int} (hn : I128 n) (o : Bool) : F71_0 (wd n, o) = some (sat n, o || ovf n) := by
  obtain ⟨h1, h2, h3⟩ := fit_wd hn
  unfold F71_0
  simp only [fdiv63, h1, h3]
  by_cases h : I64 n
  · rw [decide_eq_true h, h2 h, sat_in h, ovf_in h, Bool.not_true, cond_false, Bool.or_false]
  · rw [decide_eq_false h, ovf_out h, Bool.not_false, cond_true, bound_p, sat_bnd h, Bool.or_true]; rfl
/-- The product, cut and rounded. -/
theorem mul_parts {n : Int} (hn : I128 n) : IntKind.wrap .u32 (wd n).2 = n % 4294967296 ∧ ((wd n).1 / 4294967296, bits .or .u64 (IntKind.wrap .u64 (IntKind.wrap .u64 (wd n).1 * 2 ^ 32)) ((wd n).2 / 4294967296)) = wd (n / 4294967296) ∧
    bits .and .u64 (bits .or .u64 (IntKind.wrap .u64 (IntKind.wrap .u64 (wd n).1 * 2 ^ 32)) ((wd n).2 / 4294967296)) 1 = n / 4294967296 % 2 := by
  unfold I128 at hn
  unfold wd
  simp only [IntKind.wrap_u32, IntKind.wrap_u64]
  rw [u64_join 32 ⟨by omega, by omega⟩ (by omega) (by omega) (by omega) ⟨by omega, by omega⟩]
  refine ⟨by omega, pair_eq (by omega) (by omega), ?_⟩
  have := u64_mask (x := n / 18446744073709551616 % 18446744073709551616 * 2 ^ 32 % 18446744073709551616 + n % 18446744073709551616 / 4294967296) 1 (by decide) ⟨by omega, by omega⟩
  rw [show (2 : Int) ^ 1 - 1 = 1 from rfl] at this
  rw [this]
  omega
theorem prod_128 {a b : Int} (ha : I64 a) (hb : I64 b) : I128 (a * b) ∧ I128 (mulR a b) ∧ I128 (a * b / 4294967296) := by
  have h := prod_i64 ha hb
  have h2 := rhe_bounds (n := a * b) (d := 4294967296) (by decide)
  unfold mulR
  generalize rhe (a * b) 4294967296 = m at *
  generalize a * b = p at *
  refine ⟨?_, ?_, ?_⟩ <;> (unfold I128; omega)
theorem one_more {m : Int} (hm : I128 m) (hm' : I128 (m + 1)) : ((F69_0 1).bind fun r => F70_0 (wd m, (r.1, r.2))) = some (wd (m + 1), true) := by
  rw [ofw_eq (show I64 1 by decide)]
  have h1 : W128 (wd 1) := wd_ok (by unfold I128; omega)
  have e : ((wd 1).1, (wd 1).2) = wd 1 := rfl
  simp only [Option.bind_some, e]
  rw [addw_eq (wd_ok hm) h1 (by rw [wv_wd, wv_wd]; exact hm'), wv_wd, wv_wd]
theorem mul_p {a b : Int} (ha : I64 a) (hb : I64 b) (o : Bool) : F46_0 ((a, b), o) = some (mulS a b, o || ovf (mulR a b)) := by
  obtain ⟨hn, hm, hq⟩ := prod_128 ha hb
  obtain ⟨p1, p2, p3⟩ := mul_parts hn
  unfold F46_0 mulS
  rw [mulw_eq ha hb]
  have p2' : ((wd (a * b)).1 / 4294967296, bits .or .u64 (IntKind.wrap .u64 (IntKind.wrap .u64 (wd (a * b)).1 * 2 ^ 32)) ((wd (a * b)).2 / 4294967296)) = wd (a * b / 4294967296) := p2
  simp only [Option.bind_some, fdiv32, p1, p3, p2']
  have hb1 : ∀ q : Int, mulR a b = q → I128 (q - 1) → a * b / 4294967296 = q - 1 → ∀ (k : (Int × Int) × Bool → Option (Int × Bool)), ((F69_0 1).bind fun r => (F70_0 (wd (a * b / 4294967296), (r.1, r.2))).bind k) = k (wd q, true) := by
    intro q h1 h2 h3 k
    have := one_more (m := q - 1) h2 (by rw [show q - 1 + 1 = q by omega]; rw [← h1]; exact hm)
    rw [show q - 1 + 1 = q by omega] at this
    rw [h3, ← Option.bind_assoc, this]; rfl
  have e : ∀ q : Int, ((wd q).1, (wd q).2) = wd q := fun _ => rfl
  unfold mulR rhe at hm ⊢
  unfold mulR rhe at hb1
  generalize hN : a * b = n at *
  by_cases c1 : n % 4294967296 > 2147483648
  · rw [decide_eq_true c1, cond_true, if_pos (Or.inl (by omega))]
    rw [if_pos (Or.inl (by omega))] at hm hb1
    rw [hb1 _ rfl (by rw [show n / 4294967296 + 1 - 1 = n / 4294967296 by omega]; exact hq) (by omega)]
    simp only [e, fit_p hm, Option.bind_some]
  · rw [decide_eq_false c1, cond_false]
    by_cases c2 : n % 4294967296 = 2147483648 ∧ n / 4294967296 % 2 = 1
    · rw [if_pos (Or.inr ⟨by omega, c2.2⟩)]
      rw [if_pos (Or.inr ⟨by omega, c2.2⟩)] at hm hb1
      rw [show (n % 4294967296 == 2147483648) = true by simpa using c2.1, show (n / 4294967296 % 2 == 1) = true by simpa using c2.2]
      simp only [cond_true]
      rw [hb1 _ rfl (by rw [show n / 4294967296 + 1 - 1 = n / 4294967296 by omega]; exact hq) (by omega)]
      simp only [e, fit_p hm, Option.bind_some]
    · rw [if_neg (by omega)] at hm ⊢
      have hf := fit_p hq o
      simp only [e, hf, Option.bind_some]
      by_cases c3 : n % 4294967296 = 2147483648
      · rw [show (n % 4294967296 == 2147483648) = true by simpa using c3, show (n / 4294967296 % 2 == 1) = false by simp; omega]; rfl
      · rw [show (n % 4294967296 == 2147483648) = false by simpa using c3]; rfl
/-! ### Sums -/
theorem wv_of {a : Int} : wv (wd a) = a := wv_wd a
theorem sub_p {a b : Int} (ha : I64 a) (hb : I64 b) (o : Bool) : F45_0 ((a, b), o) = some (sat (a - b), o || ovf (a - b)) := by
  unfold F45_0
  have e : ∀ q : Int, ((wd q).1, (wd q).2) = wd q := fun _ => rfl
  have ha' := ha; have hb' := hb
  unfold I64 at ha' hb'
  simp only [ofw_eq hb, Option.bind_some, e]
  rw [negw_eq (wd_ok (of_I128 hb)) (by rw [wv_wd]; unfold I128; omega), wv_wd]
  simp only [ofw_eq ha, Option.bind_some, e]
  rw [addw_eq (wd_ok (of_I128 ha)) (wd_ok (by unfold I128; omega)) (by rw [wv_wd, wv_wd]; unfold I128; omega), wv_wd, wv_wd]
  simp only [Option.bind_some, e]
  rw [show a + -b = a - b by omega, fit_p (by unfold I128; omega)]; rfl
theorem neg_p {a : Int} (ha : I64 a) (o : Bool) : F50_0 (a, o) = some (sat (-a), o || ovf (-a)) := by
  unfold F50_0
  simp only []
  rw [sub_p (by decide) ha, show (0 : Int) - a = -a by omega]; rfl
def absS (a : Int) : Int := if a < 0 then sat (-a) else a
def absO (a : Int) : Bool := decide (a < 0) && ovf (-a)
/-! ### Quotients -/
theorem nought_p (a : Int) (o : Bool) : F74_0 (a, o) = some (divS a 0, true) := by
  unfold F74_0 divS
  simp only [bound_p, Option.bind_some, if_true]
  by_cases h : a = 0
  · subst h; rfl
  · rw [show (a == 0) = false by simpa using h, cond_false, if_neg h]
    unfold bnd
    by_cases h2 : a < 0
    · rw [decide_eq_true h2, if_pos h2]; rfl
    · rw [decide_eq_false h2, if_neg h2]; rfl
theorem rdiv_sign {a b : Int} (hb : b ≠ 0) (h : ¬ I64 (rdiv a b)) : (!(decide (a < 0) == decide (b < 0))) = decide (rdiv a b < 0) := by
  rw [rdiv_size hb] at h ⊢
  have hS := rhe_nonneg (n := if a < 0 then -a else a) (d := if b < 0 then -b else b) (by split <;> omega) (by split <;> omega)
  generalize rhe (if a < 0 then -a else a) (if b < 0 then -b else b) = S at *
  unfold I64 at h
  by_cases h1 : a < 0 <;> by_cases h2 : b < 0 <;> simp only [h1, h2, decide_true, decide_false, b_tt, b_ff, b_tf, b_ft, Bool.not_true, Bool.not_false, if_true, if_false, eq_self] at h ⊢
  · rw [decide_eq_false (by omega)]
  · rw [if_neg (by simp)] at h ⊢; rw [decide_eq_true (by omega)]
  · rw [if_neg (by simp)] at h ⊢; rw [decide_eq_true (by omega)]
  · rw [decide_eq_false (by omega)]
theorem shl32 {a : Int} (ha : I64 a) : (a / 4294967296, IntKind.wrap .u64 (IntKind.wrap .u64 a * 2 ^ 32)) = wd (a * 4294967296) := by
  unfold I64 at ha
  unfold wd
  simp only [IntKind.wrap_u64]
  exact pair_eq (by omega) (by omega)
theorem div_p {a b : Int} (ha : I64 a) (hb : I64 b) (o : Bool) : F49_0 ((a, b), o) = some (divS a b, o || divO a b) := by
  unfold F49_0
  simp only [fdiv32, shl32 ha]
  by_cases h0 : b = 0
  · subst h0
    simp only [beq_self_eq_true, cond_true, nought_p, Option.bind_some]
    unfold divO; simp
  · rw [show (b == 0) = false by simpa using h0, cond_false]
    have hr : divR a b = rdiv (a * 4294967296) b := rfl
    have h128 : I128 (a * 4294967296) := by unfold I64 at ha; unfold I128; omega
    rw [divw_eq (wd_ok h128) hb, wv_wd, ← hr]
    unfold divS divO
    rw [if_neg h0, decide_eq_false h0, Bool.false_or]
    by_cases h : I64 (divR a b)
    · rw [if_pos ⟨h0, h⟩, sat_in h, ovf_in h, Bool.or_false]; rfl
    · rw [if_neg (fun hh => h hh.2), ovf_out h, Bool.or_true]
      have hs := rdiv_sign h0 (by rw [← hr]; exact h)
      have e1 : decide (a < 0) = decide (a * 4294967296 < 0) := by
        by_cases h1 : a < 0
        · rw [decide_eq_true h1, decide_eq_true (by omega)]
        · rw [decide_eq_false h1, decide_eq_false (by omega)]
      simp only [Option.bind_some, Bool.not_false, cond_true, bound_p, e1]
      rw [hs, ← hr, sat_bnd h]
theorem divS_i64 (a b : Int) : I64 (divS a b) := by
  unfold divS
  split
  · split
    · decide
    · split <;> decide
  · exact sat_i64 _
theorem mulS_i64 (a b : Int) : I64 (mulS a b) := sat_i64 _
end Go.Proofs.YtneiaaalbpjgiaaGreat.Ev
