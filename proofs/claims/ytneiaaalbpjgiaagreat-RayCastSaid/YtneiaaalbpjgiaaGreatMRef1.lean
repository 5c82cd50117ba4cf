/- Numbers of 128 bits by signs and parts of 32 bits: what the document's answer reckons. -/
import Derived.Test.YtneiaaalbpjgiaaGreatXFns
import Derived.Test.YtneiaaalbpjgiaaGreatMNum
set_option linter.unusedVariables false
set_option linter.unusedSimpArgs false
namespace Go.Proofs.YtneiaaalbpjgiaaGreat.Ev
open Go

abbrev Dg : Type := Int × Int × Int × Int
abbrev Nn : Type := Bool × Dg
def dv (p : Dg) : Int := p.1 + p.2.1 * 4294967296 + p.2.2.1 * 18446744073709551616 + p.2.2.2 * 79228162514264337593543950336
def dg (n : Int) : Dg := (n % 4294967296, (n / 4294967296 % 4294967296, (n / 18446744073709551616 % 4294967296, n / 79228162514264337593543950336 % 4294967296)))
def D32 (n : Int) : Prop := 0 ≤ n ∧ n ≤ 4294967295
def DOk (p : Dg) : Prop := D32 p.1 ∧ D32 p.2.1 ∧ D32 p.2.2.1 ∧ D32 p.2.2.2
def U128 (n : Int) : Prop := 0 ≤ n ∧ n ≤ 340282366920938463463374607431768211455
theorem dv_dg {n : Int} (h : U128 n) : dv (dg n) = n := by unfold U128 at h; unfold dv dg; simp only []; omega
theorem dg_dv {p : Dg} (h : DOk p) : dg (dv p) = p := by
  obtain ⟨p0, p1, p2, p3⟩ := p
  unfold DOk D32 at h
  unfold dg dv
  simp only [] at *
  exact pair_eq (by omega) (pair_eq (by omega) (pair_eq (by omega) (by omega)))
theorem dg_ok (n : Int) : DOk (dg n) := by unfold DOk D32 dg; simp only []; omega
theorem dv_ok {p : Dg} (h : DOk p) : U128 (dv p) := by unfold DOk D32 at h; unfold U128 dv; omega
theorem dg_inj {a b : Int} (ha : U128 a) (hb : U128 b) (h : dg a = dg b) : a = b := by rw [← dv_dg ha, ← dv_dg hb, h]
/-- A number, as it is told. -/
def nd (n : Int) : Nn := (decide (n < 0), dg (if n < 0 then -n else n))
def sz1 (n : Int) : Int := if n < 0 then -n else n
theorem sz1_cases (n : Int) : (n < 0 ∧ sz1 n = -n) ∨ (0 ≤ n ∧ sz1 n = n) := by unfold sz1; split <;> omega
theorem nd_eq (n : Int) : nd n = (decide (n < 0), dg (sz1 n)) := rfl
theorem low_eq {n : Int} (h : 0 ≤ n) : F107_0 n = some (n % 4294967296) := by
  unfold F107_0
  rw [tmod_nn h]
theorem zero1_eq {n : Int} (neg : Bool) (h : U128 n) : F105_0 (neg, dg n) = some (decide (n = 0)) := by
  unfold F105_0
  have hv := dv_dg h
  generalize hp : dg n = p at *
  have hok : DOk p := hp ▸ dg_ok n
  obtain ⟨p0, p1, p2, p3⟩ := p
  unfold DOk D32 at hok
  unfold dv at hv
  simp only [] at *
  by_cases h0 : p0 = 0
  · by_cases h1 : p1 = 0
    · by_cases h2 : p2 = 0
      · rw [show (p0 == 0) = true by simpa using h0, show (p1 == 0) = true by simpa using h1, show (p2 == 0) = true by simpa using h2]
        simp only [cond_true]
        by_cases h3 : p3 = 0
        · rw [show (p3 == 0) = true by simpa using h3, decide_eq_true (by omega)]
        · rw [show (p3 == 0) = false by simpa using h3, decide_eq_false (by omega)]
      · rw [show (p0 == 0) = true by simpa using h0, show (p1 == 0) = true by simpa using h1, show (p2 == 0) = false by simpa using h2, decide_eq_false (by omega)]; rfl
    · rw [show (p0 == 0) = true by simpa using h0, show (p1 == 0) = false by simpa using h1, decide_eq_false (by omega)]; rfl
  · rw [show (p0 == 0) = false by simpa using h0, decide_eq_false (by omega)]; rfl
theorem less1_eq {a b : Int} (ha : U128 a) (hb : U128 b) : F103_0 (dg a, dg b) = some (decide (a < b)) := by
  have hva := dv_dg ha
  have hvb := dv_dg hb
  generalize hp : dg a = p at *
  generalize hq : dg b = q at *
  have ho : DOk p := hp ▸ dg_ok a
  have ho' : DOk q := hq ▸ dg_ok b
  unfold F103_0
  obtain ⟨p0, p1, p2, p3⟩ := p
  obtain ⟨q0, q1, q2, q3⟩ := q
  unfold DOk D32 at ho ho'
  unfold dv at hva hvb
  simp only [] at *
  by_cases h3 : p3 = q3
  · rw [show (p3 != q3) = false by simpa using h3, cond_false]
    by_cases h2 : p2 = q2
    · rw [show (p2 != q2) = false by simpa using h2, cond_false]
      by_cases h1 : p1 = q1
      · rw [show (p1 != q1) = false by simpa using h1, cond_false]
        by_cases h0 : p0 = q0
        · rw [show (p0 != q0) = false by simpa using h0, cond_false, decide_eq_false (show ¬ a < b by omega)]
        · rw [show (p0 != q0) = true by simpa using h0, cond_true]; exact some_eq (decide_eq_decide.2 (by omega))
      · rw [show (p1 != q1) = true by simpa using h1, cond_true]; exact some_eq (decide_eq_decide.2 (by omega))
    · rw [show (p2 != q2) = true by simpa using h2, cond_true]; exact some_eq (decide_eq_decide.2 (by omega))
  · rw [show (p3 != q3) = true by simpa using h3, cond_true]; exact some_eq (decide_eq_decide.2 (by omega))
theorem plus1_eq {a b : Int} (ha : U128 a) (hb : U128 b) : F102_0 (dg a, dg b) = some (dg (a + b), (a + b) / 340282366920938463463374607431768211456) := by
  have hva := dv_dg ha
  have hvb := dv_dg hb
  have ho := dg_ok a
  have ho' := dg_ok b
  rw [show a + b = dv (dg a) + dv (dg b) by rw [hva, hvb]]
  generalize dg a = p at *
  generalize dg b = q at *
  obtain ⟨p0, p1, p2, p3⟩ := p
  obtain ⟨q0, q1, q2, q3⟩ := q
  clear hva hvb
  unfold DOk D32 at ho ho'
  unfold F102_0 dv dg
  simp only [] at *
  have lo : ∀ n : Int, 0 ≤ n → n ≤ 8589934592 → IntKind.wrap .u64 n = n ∧ F107_0 n = some (n % 4294967296) ∧ IntKind.wrap .u64 (Int.tdiv n 4294967296) = n / 4294967296 := fun n h0 h1 => ⟨wrap_u64 ⟨h0, by omega⟩, low_eq h0, by rw [tdiv_nn h0]; exact wrap_u64 ⟨by omega, by omega⟩⟩
  rw [(lo (p0 + q0) (by omega) (by omega)).1, (lo (p1 + q1) (by omega) (by omega)).1, (lo (p2 + q2) (by omega) (by omega)).1, (lo (p3 + q3) (by omega) (by omega)).1]
  obtain ⟨a1, a2, a3⟩ := lo (p0 + q0 + 0) (by omega) (by omega)
  rw [a1, a2, a3]
  obtain ⟨b1, b2, b3⟩ := lo (p1 + q1 + (p0 + q0 + 0) / 4294967296) (by omega) (by omega)
  rw [b1, b2, b3]
  obtain ⟨c1, c2, c3⟩ := lo (p2 + q2 + (p1 + q1 + (p0 + q0 + 0) / 4294967296) / 4294967296) (by omega) (by omega)
  rw [c1, c2, c3]
  obtain ⟨d1, d2, d3⟩ := lo (p3 + q3 + (p2 + q2 + (p1 + q1 + (p0 + q0 + 0) / 4294967296) / 4294967296) / 4294967296) (by omega) (by omega)
  rw [d1, d2, d3]
  clear a1 a2 a3 b1 b2 b3 c1 c2 c3 d1 d2 d3 lo
  simp only [Option.bind_some]
  exact some_eq (pair_eq (pair_eq (by omega) (pair_eq (by omega) (pair_eq (by omega) (by omega)))) (by omega))
theorem minus1_eq {a b : Int} (ha : U128 a) (hb : U128 b) (hle : b ≤ a) : F104_0 (dg a, dg b) = some (dg (a - b)) := by
  have hva := dv_dg ha
  have hvb := dv_dg hb
  have ho := dg_ok a
  have ho' := dg_ok b
  rw [← hva, ← hvb] at hle
  rw [show a - b = dv (dg a) - dv (dg b) by rw [hva, hvb]]
  generalize dg a = p at *
  generalize dg b = q at *
  obtain ⟨p0, p1, p2, p3⟩ := p
  obtain ⟨q0, q1, q2, q3⟩ := q
  clear hva hvb
  unfold DOk D32 at ho ho'
  unfold dv at hle
  unfold F104_0 dv dg
  simp only [] at *
  have lo : ∀ n : Int, 0 ≤ n → n ≤ 8589934592 → IntKind.wrap .u64 n = n ∧ F107_0 n = some (n % 4294967296) ∧ IntKind.wrap .u64 (Int.tdiv n 4294967296) = n / 4294967296 := fun n h0 h1 => ⟨wrap_u64 ⟨h0, by omega⟩, low_eq h0, by rw [tdiv_nn h0]; exact wrap_u64 ⟨by omega, by omega⟩⟩
  have w1 : ∀ n : Int, 0 ≤ n → n ≤ 8589934592 → IntKind.wrap .u64 n = n := fun n h0 h1 => (lo n h0 h1).1
  rw [w1 (p0 + 4294967296) (by omega) (by omega), w1 (p1 + 4294967296) (by omega) (by omega), w1 (p2 + 4294967296) (by omega) (by omega), w1 (p3 + 4294967296) (by omega) (by omega)]
  rw [w1 (p0 + 4294967296 - q0) (by omega) (by omega), w1 (p1 + 4294967296 - q1) (by omega) (by omega), w1 (p2 + 4294967296 - q2) (by omega) (by omega), w1 (p3 + 4294967296 - q3) (by omega) (by omega)]
  obtain ⟨a1, a2, a3⟩ := lo (p0 + 4294967296 - q0 - 0) (by omega) (by omega)
  rw [a1, a2, a3, w1 (1 - (p0 + 4294967296 - q0 - 0) / 4294967296) (by omega) (by omega)]
  obtain ⟨b1, b2, b3⟩ := lo (p1 + 4294967296 - q1 - (1 - (p0 + 4294967296 - q0 - 0) / 4294967296)) (by omega) (by omega)
  rw [b1, b2, b3, w1 (1 - (p1 + 4294967296 - q1 - (1 - (p0 + 4294967296 - q0 - 0) / 4294967296)) / 4294967296) (by omega) (by omega)]
  obtain ⟨c1, c2, c3⟩ := lo (p2 + 4294967296 - q2 - (1 - (p1 + 4294967296 - q1 - (1 - (p0 + 4294967296 - q0 - 0) / 4294967296)) / 4294967296)) (by omega) (by omega)
  rw [c1, c2, c3, w1 (1 - (p2 + 4294967296 - q2 - (1 - (p1 + 4294967296 - q1 - (1 - (p0 + 4294967296 - q0 - 0) / 4294967296)) / 4294967296)) / 4294967296) (by omega) (by omega)]
  obtain ⟨d1, d2, d3⟩ := lo (p3 + 4294967296 - q3 - (1 - (p2 + 4294967296 - q2 - (1 - (p1 + 4294967296 - q1 - (1 - (p0 + 4294967296 - q0 - 0) / 4294967296)) / 4294967296)) / 4294967296)) (by omega) (by omega)
  rw [d1, d2]
  clear a1 a2 a3 b1 b2 b3 c1 c2 c3 d1 d2 d3 lo w1
  simp only [Option.bind_some]
  exact some_eq (pair_eq (by omega) (pair_eq (by omega) (pair_eq (by omega) (by omega))))
/-- Does a size fit, with its sign? -/
theorem words1_eq {m : Int} (hm : U128 m) (neg : Bool) : ∃ x y, F106_0 (neg, dg m) = some (x, (y, decide (if neg then m ≤ 170141183460469231731687303715884105728 else m ≤ 170141183460469231731687303715884105727))) := by
  have hv := dv_dg hm
  have ho := dg_ok m
  generalize dg m = p at *
  obtain ⟨p0, p1, p2, p3⟩ := p
  unfold DOk D32 at ho
  unfold dv at hv
  unfold F106_0
  simp only [] at *
  have e1 : IntKind.wrap .u64 (p3 * 4294967296) = p3 * 4294967296 := wrap_u64 ⟨by omega, by omega⟩
  have e2 : IntKind.wrap .u64 (p3 * 4294967296 + p2) = p3 * 4294967296 + p2 := wrap_u64 ⟨by omega, by omega⟩
  have e3 : IntKind.wrap .u64 (p1 * 4294967296) = p1 * 4294967296 := wrap_u64 ⟨by omega, by omega⟩
  have e4 : IntKind.wrap .u64 (p1 * 4294967296 + p0) = p1 * 4294967296 + p0 := wrap_u64 ⟨by omega, by omega⟩
  simp only [e1, e2, e3, e4]
  by_cases h1 : p3 * 4294967296 + p2 > 9223372036854775808
  · rw [decide_eq_true h1, cond_true, decide_eq_false (by split <;> omega)]; exact ⟨_, _, rfl⟩
  · rw [decide_eq_false h1, cond_false]
    by_cases h2 : p3 * 4294967296 + p2 = 9223372036854775808
    · rw [show (p3 * 4294967296 + p2 == 9223372036854775808) = true by simpa using h2, cond_true]
      by_cases h3 : p1 * 4294967296 + p0 = 0
      · rw [show (p1 * 4294967296 + p0 != 0) = false by simpa using h3, cond_false]
        cases neg
        · rw [decide_eq_false (by rw [if_neg (by decide)]; omega)]; exact ⟨_, _, rfl⟩
        · rw [decide_eq_true (by rw [if_pos rfl]; omega)]
          simp only [Bool.not_true, cond_false, cond_true]
          cases (IntKind.wrap .u64 (bits .xor .u64 18446744073709551615 (p1 * 4294967296 + p0) + 1) == 0) <;> exact ⟨_, _, rfl⟩
      · rw [show (p1 * 4294967296 + p0 != 0) = true by simpa using h3, cond_true, decide_eq_false (by split <;> omega)]; exact ⟨_, _, rfl⟩
    · rw [show (p3 * 4294967296 + p2 == 9223372036854775808) = false by simpa using h2, cond_false]
      cases neg
      · rw [decide_eq_true (by rw [if_neg (by decide)]; omega)]; exact ⟨_, _, rfl⟩
      · rw [decide_eq_true (by rw [if_pos rfl]; omega)]
        simp only [cond_true]
        cases (IntKind.wrap .u64 (bits .xor .u64 18446744073709551615 (p1 * 4294967296 + p0) + 1) == 0) <;> exact ⟨_, _, rfl⟩
def S127 (n : Int) : Prop := -170141183460469231731687303715884105728 ≤ n ∧ n ≤ 170141183460469231731687303715884105728
/-- The sum, where it fits. -/
theorem add1_eq {a b : Int} (ha : S127 a) (hb : S127 b) (hs : -170141183460469231731687303715884105728 ≤ a + b ∧ a + b ≤ 170141183460469231731687303715884105727) : F98_0 (nd a, nd b) = some (nd (a + b), true) := by
  unfold S127 at ha hb
  unfold F98_0
  simp only [nd_eq]
  have ca := sz1_cases a
  have cb := sz1_cases b
  have cs := sz1_cases (a + b)
  have ua : U128 (sz1 a) := by unfold U128; omega
  have ub : U128 (sz1 b) := by unfold U128; omega
  have fits : ∀ (m : Int) (c : Prop) [Decidable c], U128 m → (c → m ≤ 170141183460469231731687303715884105728) → (¬ c → m ≤ 170141183460469231731687303715884105727) → ∃ x y, F106_0 (decide c, dg m) = some (x, (y, true)) := by
    intro m c _ h1 h2 h3
    obtain ⟨x, y, h⟩ := words1_eq h1 (decide c)
    exact ⟨x, y, by rw [h, decide_eq_true (by by_cases hc : c <;> simp only [hc, decide_true, decide_false, if_true] <;> first | exact h2 hc | (simp; exact h3 hc))]⟩
  have fits0 : ∀ m : Int, m = 0 → ∃ x y, F106_0 (false, dg m) = some (x, (y, true)) := by
    intro m h
    exact fits m False (by unfold U128; omega) (fun h => h.elim) (fun _ => by omega)
  by_cases hn : (a < 0 ↔ b < 0)
  · have e1 : (decide (a < 0) == decide (b < 0)) = true := by simp [hn]
    have usum : U128 (sz1 a + sz1 b) := by unfold U128; omega
    have hc : (sz1 a + sz1 b) / 340282366920938463463374607431768211456 = 0 := by unfold U128 at usum; omega
    simp only [e1, cond_true, plus1_eq ua ub, Option.bind_some, zero1_eq _ usum, hc, beq_self_eq_true, Bool.not_true, cond_false]
    by_cases h0 : sz1 a + sz1 b = 0
    · rw [decide_eq_true h0, cond_true]
      obtain ⟨x, y, h⟩ := fits0 _ h0
      simp only [h, Option.bind_some, Bool.not_true, cond_false]
      have hz : a + b = 0 := by omega
      rw [hz, h0]; rfl
    · rw [decide_eq_false h0, cond_false]
      have hsz : sz1 (a + b) = sz1 a + sz1 b := by omega
      have hng : decide (a + b < 0) = decide (a < 0) := decide_eq_decide.2 (by omega)
      obtain ⟨x, y, h⟩ := fits _ (a < 0) usum (by omega) (by omega)
      simp only [h, Option.bind_some, Bool.not_true, cond_false, hsz, hng]
  · have e1 : (decide (a < 0) == decide (b < 0)) = false := by
      by_cases h1 : a < 0 <;> by_cases h2 : b < 0 <;> simp_all
    simp only [e1, cond_false, less1_eq ua ub, Option.bind_some]
    by_cases hl : sz1 a < sz1 b
    · have ud : U128 (sz1 b - sz1 a) := by unfold U128 at *; omega
      simp only [decide_eq_true hl, cond_true, minus1_eq ub ua (by omega), Option.bind_some, zero1_eq _ ud]
      have h0 : ¬ sz1 b - sz1 a = 0 := by omega
      have hsz : sz1 (a + b) = sz1 b - sz1 a := by omega
      have hng : decide (a + b < 0) = decide (b < 0) := decide_eq_decide.2 (by omega)
      rw [decide_eq_false h0, cond_false]
      obtain ⟨x, y, h⟩ := fits _ (b < 0) ud (by omega) (by omega)
      simp only [h, Option.bind_some, Bool.not_true, cond_false, hsz, hng]
    · have ud : U128 (sz1 a - sz1 b) := by unfold U128 at *; omega
      simp only [decide_eq_false hl, cond_false, minus1_eq ua ub (by omega), Option.bind_some, zero1_eq _ ud]
      by_cases h0 : sz1 a - sz1 b = 0
      · rw [decide_eq_true h0, cond_true]
        obtain ⟨x, y, h⟩ := fits0 _ h0
        simp only [h, Option.bind_some, Bool.not_true, cond_false]
        have hz : a + b = 0 := by omega
        rw [hz, h0]; rfl
      · rw [decide_eq_false h0, cond_false]
        have hsz : sz1 (a + b) = sz1 a - sz1 b := by omega
        have hng : decide (a + b < 0) = decide (a < 0) := decide_eq_decide.2 (by omega)
        obtain ⟨x, y, h⟩ := fits _ (a < 0) ud (by omega) (by omega)
        simp only [h, Option.bind_some, Bool.not_true, cond_false, hsz, hng]
def sgn3 (n : Int) : Int := if n = 0 then 0 else if n < 0 then -1 else 1
theorem sign1_eq {n : Int} (h : S127 n) : F108_0 (nd n) = some (sgn3 n) := by
  unfold S127 at h
  have c := sz1_cases n
  have hu : U128 (sz1 n) := by unfold U128; omega
  unfold F108_0 sgn3
  simp only [nd_eq, zero1_eq _ hu, Option.bind_some]
  by_cases h0 : n = 0
  · rw [decide_eq_true (show sz1 n = 0 by omega), if_pos h0]; rfl
  · rw [decide_eq_false (show ¬ sz1 n = 0 by omega), if_neg h0, cond_false]
    by_cases h1 : n < 0
    · rw [decide_eq_true h1, if_pos h1]; rfl
    · rw [decide_eq_false h1, if_neg h1]; rfl
end Go.Proofs.YtneiaaalbpjgiaaGreat.Ev
