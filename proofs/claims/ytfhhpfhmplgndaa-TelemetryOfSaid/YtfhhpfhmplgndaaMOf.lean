/- Chapter 41: which sample a state has. -/
import Derived.Test.YtfhhpfhmplgndaaMLen
import Derived.Test.YtfhhpfhmplgndaaMStats
set_option linter.unusedVariables false
set_option linter.unusedSimpArgs false
namespace Go.Proofs.Ytfhhpfhmplgndaa.Ev
open Go

theorem rof_all {n : Int} (hn : I64 n) (o : Bool) : F34_0 (n, o) = some (sat (n * 4294967296), o || ovf (n * 4294967296)) := by
  unfold I64 at hn
  unfold F34_0
  simp only [rbound_eq, Option.bind_some]
  by_cases h1 : n > 2147483647
  · have e1 : sat (n * 4294967296) = 9223372036854775807 := by unfold sat; rw [if_pos (by omega)]
    have e2 : ovf (n * 4294967296) = true := by unfold ovf; simp; omega
    rw [decide_eq_true h1, cond_true, e1, e2, Bool.or_true]; rfl
  · rw [decide_eq_false h1, cond_false]
    by_cases h2 : n < -2147483648
    · have e1 : sat (n * 4294967296) = -9223372036854775808 := by unfold sat; rw [if_neg (by omega), if_pos (by omega)]
      have e2 : ovf (n * 4294967296) = true := by unfold ovf; simp; omega
      rw [decide_eq_true h2, cond_true, e1, e2, Bool.or_true]; rfl
    · have hi : I64 (n * 4294967296) := by unfold I64; omega
      rw [decide_eq_false h2, cond_false, sw64 (by omega), sat_in hi, ovf_in hi, Bool.or_false]
theorem u32of {n : Int} (h : (Lit.int .u32 n).wf = true) : 0 ≤ n ∧ n ≤ 4294967295 := by
  have : IntKind.u32.min ≤ n ∧ n ≤ IntKind.u32.max := by simpa [Lit.wf] using h
  exact this
theorem signed20 {n : Int} (hn : 0 ≤ n ∧ n ≤ 4294967295) : F35_0 n = some (IntKind.wrap .i64 (IntKind.wrap .i32 n)) := by
  have e : IntKind.wrap .i64 (IntKind.wrap .i32 n) = if n ≥ 2147483648 then n - 4294967296 else n := by
    rw [IntKind.wrap_i32, IntKind.wrap_i64]
    split <;> omega
  rw [e]
  unfold F35_0
  simp only [sw64 (show -9223372036854775808 ≤ n ∧ n ≤ 9223372036854775807 by omega)]
  by_cases h : n ≥ 2147483648
  · rw [decide_eq_true h, cond_true, if_pos h, sw64 (by omega)]
  · rw [decide_eq_false h, cond_false, if_neg h]
set_option maxHeartbeats 2000000 in
theorem of_E (v : A5_0) : ∃ (press k : Int), (0 ≤ k ∧ k ≤ 4) ∧
    F15_0 (v, false) = ((F31_0 ((v.2.2.2.1, (v.2.2.2.2.1, v.2.2.2.2.2.1)), false)).bind fun r => (F32_0 (v.2.2.2.2.2.2.2.2.2.2.2.2.2.2.2.2.2.2.2.2.2.2.2.2.2.2.2.1, r.2)).bind fun s =>
      (F31_0 ((v.2.2.2.2.2.2.2.2.2.2.1, (v.2.2.2.2.2.2.2.2.2.2.2.1, v.2.2.2.2.2.2.2.2.2.2.2.2.1)), s.2)).bind fun t => (F32_0 (k, t.2)).bind fun u =>
      some ((r.1, (v.2.2.1, (v.2.2.2.2.2.2.2.2.2.2.2.2.2.2.2.2.2.2.2.2.2.2.2.2.2.1, (s.1, (IntKind.wrap .i64 (IntKind.wrap .i32 v.2.2.2.2.2.2.2.2.2.2.2.2.2.2.2.2.2.2.2.2.2.2.2.2.2.2.2.2.2.1), (press, (t.1, u.1))))))), u.2)) ∧
    F16_0 (v, false) = ((F33_0 ((v.2.2.2.1, (v.2.2.2.2.1, v.2.2.2.2.2.1)), false)).bind fun r => (F34_0 (v.2.2.2.2.2.2.2.2.2.2.2.2.2.2.2.2.2.2.2.2.2.2.2.2.2.2.2.1, r.2)).bind fun s =>
      (F35_0 v.2.2.2.2.2.2.2.2.2.2.2.2.2.2.2.2.2.2.2.2.2.2.2.2.2.2.2.2.2.1).bind fun a => (F33_0 ((v.2.2.2.2.2.2.2.2.2.2.1, (v.2.2.2.2.2.2.2.2.2.2.2.1, v.2.2.2.2.2.2.2.2.2.2.2.2.1)), s.2)).bind fun t => (F34_0 (k, t.2)).bind fun u =>
      some ((r.1, (v.2.2.1, (v.2.2.2.2.2.2.2.2.2.2.2.2.2.2.2.2.2.2.2.2.2.2.2.2.2.1, (s.1, (a, (press, (t.1, u.1))))))), u.2)) := by
  obtain ⟨c0, c1, c2, c3, c4, c5, c6, c7, c8, c9, c10, c11, c12, c13, c14, c15, c16, c17, c18, c19, c20, c21, c22, c23, c24, c25, c26, c27, c28, c29, c30, c31, c32, c33, c34, c35, c36, c37, c38, c39, c40⟩ := v
  cases c15 <;> cases c18 <;> cases c21 <;> cases c24 <;> refine ⟨_, _, ?_, rfl, rfl⟩ <;> exact ⟨by decide, by decide⟩
theorem of_same (v : A5_0) (x1 : I64 v.2.2.2.1) (x2 : I64 v.2.2.2.2.1) (x3 : I64 v.2.2.2.2.2.1) (y1 : I64 v.2.2.2.2.2.2.2.2.2.2.1) (y2 : I64 v.2.2.2.2.2.2.2.2.2.2.2.1) (y3 : I64 v.2.2.2.2.2.2.2.2.2.2.2.2.1) (hg : I64 v.2.2.2.2.2.2.2.2.2.2.2.2.2.2.2.2.2.2.2.2.2.2.2.2.2.2.2.1) (ha : 0 ≤ v.2.2.2.2.2.2.2.2.2.2.2.2.2.2.2.2.2.2.2.2.2.2.2.2.2.2.2.2.2.1 ∧ v.2.2.2.2.2.2.2.2.2.2.2.2.2.2.2.2.2.2.2.2.2.2.2.2.2.2.2.2.2.1 ≤ 4294967295) :
    ∃ t, F15_0 (v, false) = some t ∧ F16_0 (v, false) = some t := by
  obtain ⟨p, p1, p2, _⟩ := len3_same x1 x2 x3 false
  have p3 : F31_0 ((v.2.2.2.1, (v.2.2.2.2.1, v.2.2.2.2.2.1)), false) = some p := by
    unfold F31_0
    rw [p1]; rfl
  obtain ⟨q, q1, q2, _⟩ := len3_same y1 y2 y3 (p.2 || ovf (v.2.2.2.2.2.2.2.2.2.2.2.2.2.2.2.2.2.2.2.2.2.2.2.2.2.2.2.1 * 4294967296))
  have q3 : F31_0 ((v.2.2.2.2.2.2.2.2.2.2.1, (v.2.2.2.2.2.2.2.2.2.2.2.1, v.2.2.2.2.2.2.2.2.2.2.2.2.1)), (p.2 || ovf (v.2.2.2.2.2.2.2.2.2.2.2.2.2.2.2.2.2.2.2.2.2.2.2.2.2.2.2.1 * 4294967296))) = some q := by
    unfold F31_0
    rw [q1]; rfl
  obtain ⟨press, k, ⟨k0, k1⟩, e1, e2⟩ := of_E v
  have hk : I64 k := by unfold I64; omega
  rw [e1, e2, p2, p3]
  simp only [Option.bind_some, ofm_p hg, rof_all hg, signed20 ha, q2, q3, ofm_p hk, rof_all hk]
  exact ⟨_, rfl, rfl⟩
theorem law5_0 (v : A5_0) (h : Dom5_0 v) : F5_0 v = some true := by
  obtain ⟨t, e1, e2⟩ := of_same v (swf64 h.2.2.2.1) (swf64 h.2.2.2.2.1) (swf64 h.2.2.2.2.2.1) (swf64 h.2.2.2.2.2.2.2.2.2.2.1) (swf64 h.2.2.2.2.2.2.2.2.2.2.2.1) (swf64 h.2.2.2.2.2.2.2.2.2.2.2.2.1) (swf64 h.2.2.2.2.2.2.2.2.2.2.2.2.2.2.2.2.2.2.2.2.2.2.1) (u32of h.2.2.2.2.2.2.2.2.2.2.2.2.2.2.2.2.2.2.2.2.2.2.2.2.1)
  unfold F5_0
  rw [e1, e2]
  simp only [Option.bind_some, beq_self_eq_true, Bool.true_and, cond_true, awake41]
end Go.Proofs.Ytfhhpfhmplgndaa.Ev
