/- Whole numbers as floats of 64 bits: sums, differences, and back. -/
import Derived.WalkKit
set_option linter.unusedVariables false
set_option linter.unusedSimpArgs false
namespace Go.Proofs.Ytemdppcnhlnicaa.Ev
open Go

def fl (n : Int) : Nat := FloatKind.f64.nearest n
def flOk (n : Int) : Bool := decide (-1048576 ≤ n ∧ n ≤ 1048576)
def fint (b : Nat) : Option Int := match Nat.beq b 0, Nat.beq b 4607182418800017408 with
  | true, _ => some 0
  | _, true => some 1
  | _, _ => none
theorem fint_ok {b : Nat} {n : Int} (h : fint b = some n) : b = fl n := by
  unfold fint at h
  cases h1 : Nat.beq b 0 with
  | true => rw [h1] at h; cases h; rw [Nat.eq_of_beq_eq_true h1]; decide
  | false =>
    rw [h1] at h
    cases h2 : Nat.beq b 4607182418800017408 with
    | true => rw [h2] at h; cases h; rw [Nat.eq_of_beq_eq_true h2]; decide
    | false => rw [h2] at h; cases h

theorem fint_flOk {b : Nat} {n : Int} (h : fint b = some n) : flOk n = true := by
  unfold fint at h
  cases h1 : Nat.beq b 0 with
  | true => rw [h1] at h; cases h; decide
  | false =>
    rw [h1] at h
    cases h2 : Nat.beq b 4607182418800017408 with
    | true => rw [h2] at h; cases h; decide
    | false => rw [h2] at h; cases h
theorem lp : Ieee.double.leastPlace = -1074 := by decide
theorem bn : Ieee.double.binade = 4503599627370496 := by decide
theorem ir : Ieee.double.infRung = 9218868437227405312 := by decide
theorem sw : Ieee.double.signWeight = 9223372036854775808 := by decide
theorem wrd (neg : Bool) (r : Nat) : Ieee.double.word neg r = if neg then 9223372036854775808 + r else r := by unfold Ieee.Format.word; rw [sw]
theorem two52 : (2 : Nat) ^ 52 = 4503599627370496 := by decide
/-- A number's digits moved up to 53. -/
theorem log_le {m : Nat} (h0 : m ≠ 0) (h : m ≤ 1048576) : m.log2 ≤ 20 := by
  have := Nat.log2_self_le h0
  by_cases g : m.log2 ≤ 20
  · exact g
  · have h2 : 2 ^ 21 ≤ 2 ^ m.log2 := Nat.pow_le_pow_right (by decide) (by omega)
    have : (2 : Nat) ^ 21 = 2097152 := by decide
    omega
theorem kept_rng {m : Nat} (h0 : m ≠ 0) (h : m ≤ 1048576) : 4503599627370496 ≤ m * 2 ^ (52 - m.log2) ∧ m * 2 ^ (52 - m.log2) < 9007199254740992 := by
  have hl := log_le h0 h
  have h1 := Nat.log2_self_le h0
  have h2 := Nat.lt_log2_self (n := m)
  have e : 2 ^ m.log2 * 2 ^ (52 - m.log2) = 4503599627370496 := by rw [← Nat.pow_add, show m.log2 + (52 - m.log2) = 52 by omega, two52]
  have p := Nat.two_pow_pos (52 - m.log2)
  have a := Nat.mul_le_mul_right (2 ^ (52 - m.log2)) h1
  have b := Nat.mul_lt_mul_of_pos_right h2 p
  rw [Nat.pow_succ, Nat.mul_comm (2 ^ m.log2) 2, Nat.mul_assoc, e] at b
  rw [e] at a
  exact ⟨a, by omega⟩
theorem log_shift {m : Nat} (h0 : m ≠ 0) (k : Nat) : (m * 2 ^ k).log2 = m.log2 + k := by
  induction k with
  | zero => simp
  | succ k ih =>
    have : m * 2 ^ k ≠ 0 := Nat.mul_ne_zero h0 (Nat.ne_of_gt (Nat.two_pow_pos k))
    rw [Nat.pow_succ, ← Nat.mul_assoc, Nat.mul_comm _ 2, Nat.log2_two_mul this, ih]
    omega
theorem cut_exact (way : Ieee.Toward) (neg : Bool) (K d : Nat) (h : d ≤ (K * 2 ^ d).log2 + 2) : way.cut neg (K * 2 ^ d) d = K := by
  have p := Nat.two_pow_pos d
  have z : (1 : Nat) <<< min d ((K * 2 ^ d).log2 + 2) = 2 ^ d := by rw [show min d ((K * 2 ^ d).log2 + 2) = d by omega, Nat.shiftLeft_eq, Nat.one_mul]
  unfold Ieee.Toward.cut
  simp only [z, Nat.mul_div_cancel _ p, Nat.mul_mod_left]
  have q2 : ((2 ^ d == 2 * 0) = false) := by simp
  cases way <;> simp [q2]
theorem cut_zero (neg : Bool) (K : Nat) : Ieee.Toward.even.cut neg K 0 = K := by
  have := cut_exact .even neg K 0 (Nat.zero_le _)
  rwa [Nat.pow_zero, Nat.mul_one] at this
/-- The word of m * 2^k at place -k. -/
theorem near_ok {m : Nat} (h0 : m ≠ 0) (h : m ≤ 1048576) (neg : Bool) (k : Nat) : Ieee.double.nearest neg (m * 2 ^ k) (-(k : Int)) = Ieee.double.word neg ((m.log2 + 1022) * 4503599627370496 + m * 2 ^ (52 - m.log2)) := by
  have hl := log_le h0 h
  have hk := kept_rng h0 h
  have hm : m * 2 ^ k ≠ 0 := Nat.mul_ne_zero h0 (Nat.ne_of_gt (Nat.two_pow_pos k))
  unfold Ieee.Format.nearest
  rw [if_neg hm, log_shift h0, lp, bn, ir]
  have fb : Ieee.double.fractionBits = 52 := rfl
  rw [fb]
  have e1 : max (-(k : Int) + ((m.log2 + k : Nat) : Int) - ((52 : Nat) : Int)) (-1074) = (m.log2 : Int) - 52 := by omega
  simp only [e1]
  have e2 : ((m.log2 : Int) - 52 - -1074).toNat = m.log2 + 1022 := by omega
  rw [e2]
  have e3 : Ieee.Toward.even.cut neg ((m * 2 ^ k) <<< (-(k : Int) - ((m.log2 : Int) - 52)).toNat) ((m.log2 : Int) - 52 - -(k : Int)).toNat = m * 2 ^ (52 - m.log2) := by
    by_cases c : k + m.log2 ≤ 52
    · have d1 : (-(k : Int) - ((m.log2 : Int) - 52)).toNat = 52 - m.log2 - k := by omega
      have d2 : ((m.log2 : Int) - 52 - -(k : Int)).toNat = 0 := by omega
      rw [d1, d2]
      rw [Nat.shiftLeft_eq, Nat.mul_assoc, ← Nat.pow_add, show k + (52 - m.log2 - k) = 52 - m.log2 by omega]
      exact cut_zero _ _
    · have d1 : (-(k : Int) - ((m.log2 : Int) - 52)).toNat = 0 := by omega
      obtain ⟨d, hd⟩ : ∃ d, d = k + m.log2 - 52 := ⟨_, rfl⟩
      have d2 : ((m.log2 : Int) - 52 - -(k : Int)).toNat = d := by omega
      rw [d1, d2, Nat.shiftLeft_zero]
      have f : m * 2 ^ k = m * 2 ^ (52 - m.log2) * 2 ^ d := by rw [Nat.mul_assoc, ← Nat.pow_add, show 52 - m.log2 + d = k by omega]
      rw [f]
      exact cut_exact _ _ _ _ (by rw [← f, log_shift h0]; omega)
  rw [e3]
  have e4 : min ((m.log2 + 1022) * 4503599627370496 + m * 2 ^ (52 - m.log2)) 9218868437227405312 = (m.log2 + 1022) * 4503599627370496 + m * 2 ^ (52 - m.log2) := by omega
  rw [e4]
theorem fl_ne {n : Int} (h0 : n ≠ 0) (h : n.natAbs ≤ 1048576) : fl n = Ieee.double.word (decide (n < 0)) ((n.natAbs.log2 + 1022) * 4503599627370496 + n.natAbs * 2 ^ (52 - n.natAbs.log2)) := by
  have := near_ok (m := n.natAbs) (by omega) h (decide (n < 0)) 0
  rw [← this]
  show Ieee.double.nearest (decide (n < 0)) n.natAbs 0 = _
  simp
theorem zero_eq (k : Nat) : 0 = (0 : Int).natAbs * 2 ^ k := (Nat.zero_mul _).symm
theorem fl_zero : fl 0 = 0 := by decide
theorem read_fl {n : Int} (h : n.natAbs ≤ 1048576) : ∃ M : Nat, ∃ i : Nat, Ieee.double.read (fl n) = .number (decide (n < 0)) M (-(i : Int)) ∧ M = n.natAbs * 2 ^ i ∧ (n ≠ 0 → i = 52 - n.natAbs.log2) := by
  by_cases h0 : n = 0
  · subst h0
    exact ⟨0, 1074, by rw [fl_zero]; decide, zero_eq 1074, fun h => absurd rfl h⟩
  · have hl := log_le (m := n.natAbs) (by omega) h
    have hk := kept_rng (m := n.natAbs) (by omega) h
    refine ⟨n.natAbs * 2 ^ (52 - n.natAbs.log2), 52 - n.natAbs.log2, ?_, rfl, fun _ => rfl⟩
    rw [fl_ne h0 h, wrd]
    unfold Ieee.Format.read
    rw [sw, bn, ir, lp]
    generalize n.natAbs * 2 ^ (52 - n.natAbs.log2) = K at *
    generalize n.natAbs.log2 = g at *
    have c1 : ∀ neg : Bool, (if neg = true then 9223372036854775808 + ((g + 1022) * 4503599627370496 + K) else (g + 1022) * 4503599627370496 + K) % 9223372036854775808 = (g + 1022) * 4503599627370496 + K := by
      intro neg; cases neg
      · simp only [Bool.false_eq_true, if_false]; omega
      · simp only [if_true]; omega
    have c2 : ∀ neg : Bool, ((if neg = true then 9223372036854775808 + ((g + 1022) * 4503599627370496 + K) else (g + 1022) * 4503599627370496 + K) / 9223372036854775808 % 2 == 1) = neg := by
      intro neg; cases neg
      · simp only [Bool.false_eq_true, if_false]
        rw [show ((g + 1022) * 4503599627370496 + K) / 9223372036854775808 = 0 by omega]; rfl
      · simp only [if_true]
        rw [show (9223372036854775808 + ((g + 1022) * 4503599627370496 + K)) / 9223372036854775808 = 1 by omega]; rfl
    simp only [c1, c2]
    rw [if_neg (by omega), if_pos (by omega)]
    have e1 : 4503599627370496 + ((g + 1022) * 4503599627370496 + K) % 4503599627370496 = K := by omega
    have e2 : ((-1074 : Int) + ((((g + 1022) * 4503599627370496 + K) / 4503599627370496 - 1 : Nat) : Int)) = -((52 - g : Nat) : Int) := by
      have : ((g + 1022) * 4503599627370496 + K) / 4503599627370496 = g + 1023 := by omega
      rw [this]; omega
    rw [e1, e2]
theorem signed_fl {n : Int} {M i : Nat} (hM : M = n.natAbs * 2 ^ i) (k : Nat) (hk : i ≤ k) : Ieee.signed (decide (n < 0)) M (-(i : Int) - -(k : Int)).toNat = n * ((2 ^ k : Nat) : Int) := by
  unfold Ieee.signed
  have e : (-(i : Int) - -(k : Int)).toNat = k - i := by omega
  rw [e, Nat.shiftLeft_eq, hM, Nat.mul_assoc, ← Nat.pow_add, show i + (k - i) = k by omega]
  generalize 2 ^ k = P
  by_cases c : n < 0
  · rw [decide_eq_true c, if_pos rfl]
    have : n = -((n.natAbs : Nat) : Int) := by omega
    conv => rhs; rw [this]
    rw [Int.natCast_mul, Int.neg_mul]
  · rw [decide_eq_false c, if_neg (by decide)]
    have : n = ((n.natAbs : Nat) : Int) := by omega
    conv => rhs; rw [this]
    rw [Int.natCast_mul]
theorem write_fl {n : Int} (h : n.natAbs ≤ 1048576) (s : Bool) (k : Nat) (hs : n = 0 → s = false) :
    Ieee.double.write (.number (if n * ((2 ^ k : Nat) : Int) = 0 then s else decide (n * ((2 ^ k : Nat) : Int) < 0)) (n * ((2 ^ k : Nat) : Int)).natAbs (-(k : Int))) = fl n := by
  have p := Nat.two_pow_pos k
  by_cases h0 : n = 0
  · subst h0
    rw [Int.zero_mul, if_pos rfl, hs rfl, fl_zero]
    show Ieee.double.nearest false 0 _ = 0
    unfold Ieee.Format.nearest
    rw [if_pos rfl]; decide
  · have hne : n * ((2 ^ k : Nat) : Int) ≠ 0 := Int.mul_ne_zero h0 (by omega)
    have hsg : decide (n * ((2 ^ k : Nat) : Int) < 0) = decide (n < 0) := by
      by_cases c : n < 0
      · rw [decide_eq_true c, decide_eq_true (Int.mul_neg_of_neg_of_pos c (by omega))]
      · rw [decide_eq_false c, decide_eq_false (by have := Int.mul_nonneg (show 0 ≤ n by omega) (show (0 : Int) ≤ ((2 ^ k : Nat) : Int) by omega); omega)]
    rw [if_neg hne, hsg, Int.natAbs_mul, Int.natAbs_natCast, fl_ne h0 h]
    exact near_ok (by omega) h _ k
theorem sum_fl {a b : Int} (ha : a.natAbs ≤ 1048576) (hb : b.natAbs ≤ 1048576) (hab : (a + b).natAbs ≤ 1048576) (d1 d2 : Ieee.Datum) (h1 : d1 = Ieee.double.read (fl a)) (h2 : ∃ M i : Nat, d2 = .number (decide (b < 0) && decide (b ≠ 0) || (d2.neg && decide (b = 0))) M (-(i : Int)) ∧ M = b.natAbs * 2 ^ i) :
    (d1.sum d2).map Ieee.double.write = some (fl (a + b)) := by
  obtain ⟨M, i, e1, hM, _⟩ := read_fl ha
  obtain ⟨N, j, e2, hN⟩ := h2
  rw [h1, e1, e2]
  obtain ⟨t, ht⟩ : ∃ t, t = (decide (b < 0) && decide (b ≠ 0) || (d2.neg && decide (b = 0))) := ⟨_, rfl⟩
  rw [← ht]
  unfold Ieee.Datum.sum
  simp only [Option.map_some]
  obtain ⟨k, hk⟩ : ∃ k, k = max i j := ⟨_, rfl⟩
  have hb' : min (-(i : Int)) (-(j : Int)) = -(k : Int) := by omega
  rw [hb', signed_fl hM k (by omega)]
  have hs2 : Ieee.signed t N (-(j : Int) - -(k : Int)).toNat = b * ((2 ^ k : Nat) : Int) := by
    by_cases b0 : b = 0
    · subst b0
      rw [hN]
      unfold Ieee.signed
      simp
    · rw [ht, show (decide (b < 0) && decide (b ≠ 0) || (d2.neg && decide (b = 0))) = decide (b < 0) by simp [b0]]
      exact signed_fl hN k (by omega)
  rw [hs2, ← Int.add_mul]
  refine congrArg some (write_fl hab _ k (fun h0 => ?_))
  by_cases a0 : a < 0
  · have : 0 < b := by omega
    rw [ht, show decide (b < 0) = false from decide_eq_false (by omega), show decide (b = 0) = false from decide_eq_false (by omega)]
    simp
  · rw [decide_eq_false a0]; rfl
theorem fl_add {a b : Int} (ha : flOk a = true) (hb : flOk b = true) (hab : flOk (a + b) = true) : Ieee.double.add (fl a) (fl b) = some (fl (a + b)) := by
  unfold flOk at ha hb hab
  have ha := of_decide_eq_true ha
  have hb := of_decide_eq_true hb
  have hab := of_decide_eq_true hab
  unfold Ieee.Format.add
  obtain ⟨M, i, e, hM, _⟩ := read_fl (n := b) (by omega)
  refine sum_fl (by omega) (by omega) (by omega) _ _ rfl ⟨M, i, ?_, hM⟩
  rw [e]
  congr 1
  show decide (b < 0) = (decide (b < 0) && decide (b ≠ 0) || (decide (b < 0) && decide (b = 0)))
  by_cases c : b < 0
  · rw [decide_eq_true c, decide_eq_true (show b ≠ 0 by omega)]; rfl
  · rw [decide_eq_false c]; rfl
theorem fl_sub {a b : Int} (ha : flOk a = true) (hb : flOk b = true) (hab : flOk (a - b) = true) : Ieee.double.sub (fl a) (fl b) = some (fl (a - b)) := by
  unfold flOk at ha hb hab
  have ha := of_decide_eq_true ha
  have hb := of_decide_eq_true hb
  have hab := of_decide_eq_true hab
  unfold Ieee.Format.sub
  obtain ⟨M, i, e, hM, _⟩ := read_fl (n := b) (by omega)
  rw [show a - b = a + -b by omega]
  refine sum_fl (by omega) (by omega) (by omega) _ _ rfl ⟨M, i, ?_, by rw [hM, Int.natAbs_neg]⟩
  rw [e]
  show Ieee.Datum.number (!decide (b < 0)) M _ = _
  congr 1
  show (!decide (b < 0)) = (decide (-b < 0) && decide (-b ≠ 0) || ((!decide (b < 0)) && decide (-b = 0)))
  by_cases c : b < 0
  · rw [decide_eq_true c, decide_eq_false (show ¬ -b < 0 by omega)]; rfl
  · rw [decide_eq_false c]
    by_cases c0 : b = 0
    · subst c0; rfl
    · rw [decide_eq_true (show -b < 0 by omega), decide_eq_true (show -b ≠ 0 by omega)]; rfl
theorem fl_int {n : Int} (h : flOk n = true) : (FloatKind.f64.decode (fl n)).toInt .zero = some n := by
  unfold flOk at h
  have h := of_decide_eq_true h
  show (Ieee.double.read (fl n)).toInt .zero = some n
  obtain ⟨M, i, e, hM, hi⟩ := read_fl (n := n) (by omega)
  rw [e]
  unfold Ieee.Datum.toInt Ieee.Datum.integral
  have z : (-(i : Int)).toNat = 0 := by omega
  have z2 : (- -(i : Int)).toNat = i := by omega
  simp only [z, z2, Nat.shiftLeft_zero]
  have cutE : Ieee.Toward.zero.cut (decide (n < 0)) M i = n.natAbs := by
    by_cases n0 : n = 0
    · subst n0
      rw [hM]
      unfold Ieee.Toward.cut
      simp
    · have hl := log_le (m := n.natAbs) (by omega) (by omega)
      have i52 := hi n0
      rw [hM]
      exact cut_exact _ _ _ _ (by rw [log_shift (by omega)]; omega)
  rw [cutE]
  unfold Ieee.signed
  simp only [Nat.shiftLeft_zero]
  by_cases c : n < 0
  · rw [decide_eq_true c, if_pos rfl]; congr 1; omega
  · rw [decide_eq_false c, if_neg (by decide)]; congr 1; omega
end Go.Proofs.Ytemdppcnhlnicaa.Ev
