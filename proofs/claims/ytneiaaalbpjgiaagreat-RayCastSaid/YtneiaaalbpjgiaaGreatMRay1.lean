/- Rays: their places; which rays may be. -/
import Derived.Test.YtneiaaalbpjgiaaGreatMField6
set_option linter.unusedVariables false
set_option linter.unusedSimpArgs false
namespace Go.Proofs.YtneiaaalbpjgiaaGreat.Ev
open Go

abbrev V3 : Type := Int × Int × Int
theorem b64 {n : Int} (h : -9223372036854775808 ≤ n ∧ n ≤ 9223372036854775807) : IntKind.wrap .i64 n = n := wrap_i64 h
theorem pwf64 {n : Int} (h : (Lit.int .i64 n).wf = true) : I64 n := by
  have : IntKind.i64.min ≤ n ∧ n ≤ IntKind.i64.max := by simpa [Lit.wf] using h
  exact this
theorem sat_hi {x : Int} (h : x > 9223372036854775807) : sat x = 9223372036854775807 ∧ ovf x = true := ⟨by unfold sat; rw [if_pos h], by unfold ovf; simp; omega⟩
theorem sat_lo {x : Int} (h : x < -9223372036854775808) : sat x = -9223372036854775808 ∧ ovf x = true := ⟨by unfold sat; rw [if_neg (by omega), if_pos h], by unfold ovf; simp; omega⟩
theorem radd_eq {a b : Int} (ha : I64 a) (hb : I64 b) (o : Bool) : F56_0 ((a, b), o) = some (sat (a + b), o || ovf (a + b)) := by
  unfold I64 at ha hb
  unfold F56_0
  simp only [rbound_eq, Option.bind_some]
  by_cases h1 : b > 0
  · rw [decide_eq_true h1, cond_true, b64 (show -9223372036854775808 ≤ 9223372036854775807 - b ∧ 9223372036854775807 - b ≤ 9223372036854775807 by omega)]
    by_cases h2 : a > 9223372036854775807 - b
    · rw [decide_eq_true h2, cond_true, (sat_hi (x := a + b) (by omega)).1, (sat_hi (x := a + b) (by omega)).2, Bool.or_true]; rfl
    · rw [decide_eq_false h2, cond_false, decide_eq_false (show ¬ b < 0 by omega), cond_false, b64 (by omega), sat_in (by unfold I64; omega), ovf_in (by unfold I64; omega), Bool.or_false]
  · rw [decide_eq_false h1, cond_false]
    by_cases h2 : b < 0
    · rw [decide_eq_true h2, cond_true, b64 (show -9223372036854775808 ≤ -9223372036854775808 - b ∧ -9223372036854775808 - b ≤ 9223372036854775807 by omega)]
      by_cases h3 : a < -9223372036854775808 - b
      · rw [decide_eq_true h3, cond_true, (sat_lo (x := a + b) (by omega)).1, (sat_lo (x := a + b) (by omega)).2, Bool.or_true]; rfl
      · rw [decide_eq_false h3, cond_false, b64 (by omega), sat_in (by unfold I64; omega), ovf_in (by unfold I64; omega), Bool.or_false]
    · rw [decide_eq_false h2, cond_false, b64 (by omega), sat_in (by unfold I64; omega), ovf_in (by unfold I64; omega), Bool.or_false]
def O64 (p : V3) : Prop := I64 p.1 ∧ I64 p.2.1 ∧ I64 p.2.2
/-- A place of any ray: the program's. -/
theorem pt_p {o d : V3} {s : Int} (ho : O64 o) (hd : O64 d) (hs : I64 s) (f : Bool) : F23_0 ((o, (d, s)), f) = some ((sat (o.1 + mulS d.1 s), (sat (o.2.1 + mulS d.2.1 s), sat (o.2.2 + mulS d.2.2 s))), f || ovf (mulR d.1 s) || ovf (mulR d.2.1 s) || ovf (mulR d.2.2 s) || ovf (o.1 + mulS d.1 s) || ovf (o.2.1 + mulS d.2.1 s) || ovf (o.2.2 + mulS d.2.2 s)) := by
  unfold F23_0 F42_0 F41_0
  first | unfold F64_0 F64_1 F66_0 | unfold F64_1 F64_2 F66_0
  simp only [mul_p hd.1 hs, mul_p hd.2.1 hs, mul_p hd.2.2 hs, bnd', add_p ho.1 (mulS_i64 _ _), add_p ho.2.1 (mulS_i64 _ _), add_p ho.2.2 (mulS_i64 _ _)]
theorem pt_r {o d : V3} {s : Int} (ho : O64 o) (hd : O64 d) (hs : I64 s) (f : Bool) : F60_0 ((o, (d, s)), f) = some ((sat (o.1 + mulS d.1 s), (sat (o.2.1 + mulS d.2.1 s), sat (o.2.2 + mulS d.2.2 s))), f || ovf (mulR d.1 s) || ovf (mulR d.2.1 s) || ovf (mulR d.2.2 s) || ovf (o.1 + mulS d.1 s) || ovf (o.2.1 + mulS d.2.1 s) || ovf (o.2.2 + mulS d.2.2 s)) := by
  unfold F60_0 F82_0 F81_0
  simp only [rmul_eq hd.1 hs, rmul_eq hd.2.1 hs, rmul_eq hd.2.2 hs, bnd', radd_eq ho.1 (mulS_i64 _ _), radd_eq ho.2.1 (mulS_i64 _ _), radd_eq ho.2.2 (mulS_i64 _ _)]
theorem awake13 : F5_0 () = some true := by kernel_rfl
/-! ### A ray that may be -/
structure RayOk (o d : V3) (l : Int) : Prop where
  ox : -281474976710656 ≤ o.1 ∧ o.1 ≤ 281474976710656
  oy : -281474976710656 ≤ o.2.1 ∧ o.2.1 ≤ 281474976710656
  oz : -4398046511104 ≤ o.2.2 ∧ o.2.2 ≤ 4398046511104
  dx : -4294967296 ≤ d.1 ∧ d.1 ≤ 4294967296
  dy : -4294967296 ≤ d.2.1 ∧ d.2.1 ≤ 4294967296
  dz : -4294967296 ≤ d.2.2 ∧ d.2.2 ≤ 4294967296
  l : 0 ≤ l ∧ l ≤ 274877906944
def ptV (o d : V3) (s : Int) : V3 := (o.1 + mulR d.1 s, (o.2.1 + mulR d.2.1 s, o.2.2 + mulR d.2.2 s))
theorem mulE {a d N : Int} (ha : -4294967296 ≤ a ∧ a ≤ 4294967296) (hd : -N ≤ d ∧ d ≤ N) :
    (-N ≤ mulR a d ∧ mulR a d ≤ N) ∧ -4294967296 ≤ 2 * (mulR a d * 4294967296 - a * d) ∧ 2 * (mulR a d * 4294967296 - a * d) ≤ 4294967296 := by
  have h := Int.natAbs_mul a d
  have h3 := Nat.mul_le_mul (show a.natAbs ≤ 4294967296 by omega) (show d.natAbs ≤ N.toNat by omega)
  rw [← h] at h3
  unfold mulR
  have n := rhe_near (n := a * d) (d := 4294967296) (by decide)
  generalize a * d = p at *
  have a1 := rhe_le (n := p) (d := 4294967296) (M := N) (by decide) (by omega)
  have a2 := rhe_ge (n := p) (d := 4294967296) (M := -N) (by decide) (by omega)
  exact ⟨⟨a2, a1⟩, n⟩
theorem mulF {a d N : Int} (ha : -4294967296 ≤ a ∧ a ≤ 4294967296) (hd : -N ≤ d ∧ d ≤ N) (hN : N ≤ 4611686018427387904) (o : Bool) :
    F46_0 ((a, d), o) = some (mulR a d, o) ∧ F55_0 ((a, d), o) = some (mulR a d, o) := by
  have h := (mulE ha hd).1
  have e : mulS a d = mulR a d := sat_in (i64_of (by omega))
  rw [mul_p (i64_of (by omega)) (i64_of (by omega)), rmul_eq (i64_of (by omega)) (i64_of (by omega)), e, ovf_in (i64_of (by omega)), Bool.or_false]
  exact ⟨rfl, rfl⟩
theorem RayOk.o64 {o d : V3} {l : Int} (h : RayOk o d l) : O64 o ∧ O64 d := by
  obtain ⟨a, b, c, e, f, g, _⟩ := h
  exact ⟨⟨i64_of (by omega), i64_of (by omega), i64_of (by omega)⟩, i64_of (by omega), i64_of (by omega), i64_of (by omega)⟩
theorem pt_in {o d : V3} {l s : Int} (h : RayOk o d l) (hs : 0 ≤ s ∧ s ≤ 274877906944) (f : Bool) : F23_0 ((o, (d, s)), f) = some (ptV o d s, f) ∧ F60_0 ((o, (d, s)), f) = some (ptV o d s, f) := by
  have h6 := h.o64
  have m1 := (mulE (N := 274877906944) h.dx (show -274877906944 ≤ s ∧ s ≤ 274877906944 by omega)).1
  have m2 := (mulE (N := 274877906944) h.dy (show -274877906944 ≤ s ∧ s ≤ 274877906944 by omega)).1
  have m3 := (mulE (N := 274877906944) h.dz (show -274877906944 ≤ s ∧ s ≤ 274877906944 by omega)).1
  have e1 : mulS d.1 s = mulR d.1 s := sat_in (i64_of (by omega))
  have e2 : mulS d.2.1 s = mulR d.2.1 s := sat_in (i64_of (by omega))
  have e3 : mulS d.2.2 s = mulR d.2.2 s := sat_in (i64_of (by omega))
  obtain ⟨a, b, c, _, _, _, _⟩ := h
  rw [pt_p h6.1 h6.2 (i64_of (by omega)), pt_r h6.1 h6.2 (i64_of (by omega)), e1, e2, e3, ovf_in (i64_of (by omega)), ovf_in (i64_of (by omega)), ovf_in (i64_of (by omega)), ovf_in (i64_of (by omega)), ovf_in (i64_of (by omega)), ovf_in (i64_of (by omega)), sat_in (i64_of (by omega)), sat_in (i64_of (by omega)), sat_in (i64_of (by omega))]
  simp only [Bool.or_false]
  exact ⟨rfl, rfl⟩
theorem pt_p_in {o d : V3} {l s : Int} (h : RayOk o d l) (hs : 0 ≤ s ∧ s ≤ 274877906944) (f : Bool) : F23_0 ((o, (d, s)), f) = some (ptV o d s, f) := by
  have h6 := h.o64
  have m1 := (mulE (N := 274877906944) h.dx (show -274877906944 ≤ s ∧ s ≤ 274877906944 by omega)).1
  have m2 := (mulE (N := 274877906944) h.dy (show -274877906944 ≤ s ∧ s ≤ 274877906944 by omega)).1
  have m3 := (mulE (N := 274877906944) h.dz (show -274877906944 ≤ s ∧ s ≤ 274877906944 by omega)).1
  have e1 : mulS d.1 s = mulR d.1 s := sat_in (i64_of (by omega))
  have e2 : mulS d.2.1 s = mulR d.2.1 s := sat_in (i64_of (by omega))
  have e3 : mulS d.2.2 s = mulR d.2.2 s := sat_in (i64_of (by omega))
  obtain ⟨a, b, c, _, _, _, _⟩ := h
  rw [pt_p h6.1 h6.2 (i64_of (by omega)), e1, e2, e3, ovf_in (i64_of (by omega)), ovf_in (i64_of (by omega)), ovf_in (i64_of (by omega)), ovf_in (i64_of (by omega)), ovf_in (i64_of (by omega)), ovf_in (i64_of (by omega)), sat_in (i64_of (by omega)), sat_in (i64_of (by omega)), sat_in (i64_of (by omega))]
  simp only [Bool.or_false]
  rfl
def clampB (x m : Int) : Int := if x < -m then -m else if x > m then m else x
theorem cl1 {x m : Int} (hm : 0 ≤ m ∧ m ≤ 281474976710656) : F65_0 ((x, x), m) = some (clampB x m, m) := by
  unfold F65_0 F39_0 clampB
  simp only []
  rw [b64 (by omega), show (0 : Int) - m = -m by omega]
  by_cases h1 : x < -m
  · rw [decide_eq_true h1, cond_true, if_pos h1]; rfl
  · rw [decide_eq_false h1, cond_false, if_neg h1]
    by_cases h2 : x > m
    · rw [decide_eq_true h2, cond_true, if_pos h2]; rfl
    · rw [decide_eq_false h2, cond_false, if_neg h2]; rfl
theorem cl3 {p : V3} {m : Int} (hm : 0 ≤ m ∧ m ≤ 281474976710656) : F38_0 (p, m) = some (clampB p.1 m, (clampB p.2.1 m, clampB p.2.2 m)) := by
  unfold F38_0
  first | unfold F64_2 | unfold F64_0
  simp only [cl1 hm, bnd']
theorem cl_eq {x m : Int} (hm : 0 ≤ m) : (clampB x m == x) = decide (-m ≤ x ∧ x ≤ m) := by
  unfold clampB
  by_cases h1 : x < -m
  · rw [if_pos h1, decide_eq_false (by omega)]; exact beq_eq_false_iff_ne.2 (by omega)
  · rw [if_neg h1]
    by_cases h2 : x > m
    · rw [if_pos h2, decide_eq_false (by omega)]; exact beq_eq_false_iff_ne.2 (by omega)
    · rw [if_neg h2, decide_eq_true (by omega)]; simp
theorem may_p (o d : V3) (l : Int) : ∃ b, F21_0 (o, (d, l)) = some b ∧ (b = true ↔ RayOk o d l) := by
  unfold F21_0
  simp only [cl3 (m := 281474976710656) (by decide), cl3 (m := 4398046511104) (by decide), cl3 (m := 4294967296) (by decide), bnd', cl_eq (m := 281474976710656) (by decide), cl_eq (m := 4398046511104) (by decide), cl_eq (m := 4294967296) (by decide)]
  by_cases h1 : -281474976710656 ≤ o.1 ∧ o.1 ≤ 281474976710656
  case neg => rw [decide_eq_false h1]; exact ⟨false, rfl, by simp; intro h; exact h1 h.ox⟩
  by_cases h2 : -281474976710656 ≤ o.2.1 ∧ o.2.1 ≤ 281474976710656
  case neg => rw [decide_eq_true h1, decide_eq_false h2]; exact ⟨false, rfl, by simp; intro h; exact h2 h.oy⟩
  by_cases h3 : -4398046511104 ≤ o.2.2 ∧ o.2.2 ≤ 4398046511104
  case neg => rw [decide_eq_true h1, decide_eq_true h2, decide_eq_false h3]; exact ⟨false, rfl, by simp; intro h; exact h3 h.oz⟩
  rw [decide_eq_true h1, decide_eq_true h2, decide_eq_true h3]
  simp only [cond_true, Bool.and_true]
  by_cases h4 : -4294967296 ≤ d.1 ∧ d.1 ≤ 4294967296
  case neg => rw [decide_eq_false h4]; exact ⟨false, rfl, by simp; intro h; exact h4 h.dx⟩
  by_cases h5 : -4294967296 ≤ d.2.1 ∧ d.2.1 ≤ 4294967296
  case neg => rw [decide_eq_true h4, decide_eq_false h5]; exact ⟨false, rfl, by simp; intro h; exact h5 h.dy⟩
  by_cases h6 : -4294967296 ≤ d.2.2 ∧ d.2.2 ≤ 4294967296
  case neg => rw [decide_eq_true h4, decide_eq_true h5, decide_eq_false h6]; exact ⟨false, rfl, by simp; intro h; exact h6 h.dz⟩
  rw [decide_eq_true h4, decide_eq_true h5, decide_eq_true h6]
  simp only [cond_true, Bool.and_true]
  unfold F39_0
  simp only []
  by_cases h7 : l < 0
  · rw [decide_eq_true h7, cond_true, bnd']
    exact ⟨false, by rw [show ((0 : Int) == l) = false from beq_eq_false_iff_ne.2 (by omega)], by simp; intro h; have := h.l; omega⟩
  rw [decide_eq_false h7, cond_false]
  by_cases h8 : l > 274877906944
  · rw [decide_eq_true h8, cond_true, bnd']
    exact ⟨false, by rw [show ((274877906944 : Int) == l) = false from beq_eq_false_iff_ne.2 (by omega)], by simp; intro h; have := h.l; omega⟩
  rw [decide_eq_false h8, cond_false, bnd']
  exact ⟨true, by simp, by simp; exact ⟨h1, h2, h3, h4, h5, h6, by omega⟩⟩
theorem in13 {n m : Int} (hm : 0 ≤ m ∧ m ≤ 281474976710656) : F53_0 (n, m) = some (decide (-m ≤ n ∧ n ≤ m)) := by
  unfold F53_0
  simp only []
  rw [b64 (by omega)]
  by_cases h : n ≤ m
  · rw [decide_eq_true h, cond_true]
    by_cases h2 : n ≥ 0 - m
    · rw [decide_eq_true h2, decide_eq_true (by omega)]
    · rw [decide_eq_false h2, decide_eq_false (by omega)]
  · rw [decide_eq_false h, cond_false, decide_eq_false (by omega)]
theorem may_r (o d : V3) (l : Int) : ∃ b, F26_0 (o, (d, l)) = some b ∧ (b = true ↔ RayOk o d l) := by
  unfold F26_0
  simp only [in13 (m := 281474976710656) (by decide), in13 (m := 4398046511104) (by decide), in13 (m := 4294967296) (by decide), bnd']
  by_cases h1 : -281474976710656 ≤ o.1 ∧ o.1 ≤ 281474976710656
  case neg => rw [decide_eq_false h1]; exact ⟨false, rfl, by simp; intro h; exact h1 h.ox⟩
  by_cases h2 : -281474976710656 ≤ o.2.1 ∧ o.2.1 ≤ 281474976710656
  case neg => rw [decide_eq_true h1, decide_eq_false h2]; exact ⟨false, rfl, by simp; intro h; exact h2 h.oy⟩
  by_cases h3 : -4398046511104 ≤ o.2.2 ∧ o.2.2 ≤ 4398046511104
  case neg => rw [decide_eq_true h1, decide_eq_true h2, decide_eq_false h3]; exact ⟨false, rfl, by simp; intro h; exact h3 h.oz⟩
  rw [decide_eq_true h1, decide_eq_true h2, decide_eq_true h3]
  simp only [cond_true]
  by_cases h4 : -4294967296 ≤ d.1 ∧ d.1 ≤ 4294967296
  case neg => rw [decide_eq_false h4]; exact ⟨false, rfl, by simp; intro h; exact h4 h.dx⟩
  by_cases h5 : -4294967296 ≤ d.2.1 ∧ d.2.1 ≤ 4294967296
  case neg => rw [decide_eq_true h4, decide_eq_false h5]; exact ⟨false, rfl, by simp; intro h; exact h5 h.dy⟩
  by_cases h6 : -4294967296 ≤ d.2.2 ∧ d.2.2 ≤ 4294967296
  case neg => rw [decide_eq_true h4, decide_eq_true h5, decide_eq_false h6]; exact ⟨false, rfl, by simp; intro h; exact h6 h.dz⟩
  rw [decide_eq_true h4, decide_eq_true h5, decide_eq_true h6]
  simp only [cond_true]
  by_cases h7 : l ≥ 0
  case neg => rw [decide_eq_false h7]; exact ⟨false, rfl, by simp; intro h; have := h.l; omega⟩
  rw [decide_eq_true h7, cond_true]
  by_cases h8 : l ≤ 274877906944
  case neg => rw [decide_eq_false h8]; exact ⟨false, rfl, by simp; intro h; have := h.l; omega⟩
  rw [decide_eq_true h8]
  exact ⟨true, rfl, by simp; exact ⟨h1, h2, h3, h4, h5, h6, by omega⟩⟩
end Go.Proofs.YtneiaaalbpjgiaaGreat.Ev
