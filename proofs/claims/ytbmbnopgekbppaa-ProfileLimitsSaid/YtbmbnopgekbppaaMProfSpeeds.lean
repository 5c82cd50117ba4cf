/- A loop's speeds. -/
import Derived.Test.YtbmbnopgekbppaaMProfLap
set_option linter.unusedVariables false
set_option linter.unusedSimpArgs false
namespace Go.Proofs.Ytbmbnopgekbppaa.Ev
open Go

/-! ### Value and flag told apart -/
theorem bendV {a b c : P2} (ha : P64 a) (hb : P64 b) (hc : P64 c) : ∃ v ov, I64 v ∧ ∀ o, F8_0 ((a, (b, c)), o) = some (v, o || ov) ∧ F9_0 ((a, (b, c)), o) = some (v, o || ov) := by
  have f1 := far_eq ha hb
  have f2 := far_eq hb hc
  have f3 := far_eq hc ha
  obtain ⟨g1, h1⟩ : ∃ x, x = mulS (farP a b).1 (farP b c).1 := ⟨_, rfl⟩
  have i1 : I64 g1 := by rw [h1]; exact mulS_i64 _ _
  have key : ∀ o, F8_0 ((a, (b, c)), o) = (F8_0 ((a, (b, c)), o)) := fun _ => rfl
  unfold F8_0 F9_0 F27_0
  simp only [sub_p hb.1 ha.1, sub_p hb.2 ha.2, sub_p hc.1 hb.1, sub_p hc.2 hb.2, rsub_eq hb.1 ha.1, rsub_eq hb.2 ha.2, rsub_eq hc.1 hb.1, rsub_eq hc.2 hb.2, bnd', mul_p (sat_i64 _) (sat_i64 _), rmul_eq (sat_i64 _) (sat_i64 _), sub_p (mulS_i64 _ _) (mulS_i64 _ _), rsub_eq (mulS_i64 _ _) (mulS_i64 _ _), (f1.2 _).1, (f1.2 _).2, (f2.2 _).1, (f2.2 _).2, (f3.2 _).1, (f3.2 _).2, mul_p f1.1 f2.1, rmul_eq f1.1 f2.1, mul_p (mulS_i64 _ _) f3.1, rmul_eq (mulS_i64 _ _) f3.1]
  generalize ha1 : sat (mulS (sat (b.1 - a.1)) (sat (c.2 - b.2)) - mulS (sat (b.2 - a.2)) (sat (c.1 - b.1))) = ar
  have ia : I64 ar := by rw [← ha1]; exact sat_i64 _
  generalize hr1 : mulS (mulS (farP a b).1 (farP b c).1) (farP c a).1 = rd
  have ir : I64 rd := by rw [← hr1]; exact mulS_i64 _ _
  cases hz : rd == 0 with
  | true =>
    simp only [cond_true, Bool.or_assoc]
    exact ⟨0, _, by unfold I64; omega, fun o => ⟨rfl, rfl⟩⟩
  | false =>
    simp only [cond_false, add_p ia ia, radd_eq ia ia, bnd']
    generalize ha2 : sat (ar + ar) = ar2
    have ia2 : I64 ar2 := by rw [← ha2]; exact sat_i64 _
    have iab : I64 (absS ar2) := by unfold absS; split; exact sat_i64 _; exact ia2
    have rabs : ∀ o, F35_0 (ar2, o) = some (absS ar2, o || absO ar2) := by
      intro o
      obtain ⟨v, o', _, p, q⟩ := absSm ia2 o
      rw [q, ← p, abs_p ia2]
    simp only [abs_p ia2, rabs, bnd', div_p iab ir, rdiv_eq iab ir, Bool.or_assoc]
    exact ⟨_, _, divS_i64 _ _, fun o => ⟨rfl, rfl⟩⟩
theorem limitV {b s t : Int} (hb : I64 b) (hs : I64 s) (ht : I64 t) : ∃ v ov, I64 v ∧ v ≤ t ∧ ∀ o, F10_0 ((b, (s, t)), o) = some (v, o || ov) ∧ F11_0 ((b, (s, t)), o) = some (v, o || ov) := by
  unfold F10_0 F11_0
  simp only []
  cases hz : b == 0 with
  | true => exact ⟨t, false, ht, Int.le_refl _, fun o => by simp⟩
  | false =>
    obtain ⟨r, i2, p, q⟩ := sqrtS (divS_i64 s b)
    simp only [cond_false, div_p hs hb, rdiv_eq hs hb, bnd', p, q]
    refine ⟨if r < t then r else t, divO s b, by split <;> assumption, by split <;> omega, fun o => ⟨rfl, some_eq (pair_eq ?_ rfl)⟩⟩
    split <;> split <;> omega
theorem reachV {v r w : Int} (hv : I64 v) (hr : I64 r) (hw : I64 w) : ∃ x ov, I64 x ∧ ∀ o, F42_0 ((v, (r, w)), o) = some (x, o || ov) ∧ F47_0 ((v, (r, w)), o) = some (x, o || ov) := by
  unfold F42_0 F47_0
  obtain ⟨x, ix, p, q⟩ := sqrtS (sat_i64 (mulS v v + mulS (sat (r + r)) w))
  simp only [mul_p hv hv, rmul_eq hv hv, add_p hr hr, radd_eq hr hr, bnd', mul_p (sat_i64 _) hw, rmul_eq (sat_i64 _) hw, add_p (mulS_i64 _ _) (mulS_i64 _ _), radd_eq (mulS_i64 _ _) (mulS_i64 _ _), p, q, Bool.or_assoc]
  exact ⟨x, _, ix, fun o => ⟨rfl, rfl⟩⟩
end Go.Proofs.Ytbmbnopgekbppaa.Ev
