/- Merging in place; and all of the sort. -/
import Derived.Test.YtgjglkogengmbaaMSortB
set_option linter.unusedVariables false
set_option linter.unusedSimpArgs false
namespace Go.Proofs.Ytgjglkogengmbaa.Ev
open Go

def Spec (cap : Cap) (N : Nat) (Rc : (Int × Int × Int) × (type_of% (TT cap [])) → Option (type_of% (SS cap []))) : Prop := ∀ (p x y s : List Al) (A M B : Int), A = (p.length : Int) → M = ((p.length + x.length : Nat) : Int) → B = ((p.length + x.length + y.length : Nat) : Int) → x ≠ [] → y ≠ [] → x.length + y.length ≤ N → (p ++ (x ++ (y ++ s))).length < 200 → Srt cap x → Srt cap y → Okl cap (p ++ (x ++ (y ++ s))) →
  ∃ z, z.Perm (x ++ y) ∧ Srt cap z ∧ Rc ((A, (M, B)), TT cap (p ++ (x ++ (y ++ s)))) = some (SS cap (p ++ (z ++ s)))
theorem bif2 {α : Type} (b1 b2 : Bool) (X Y : α) : (bif b1 then (bif b2 then X else Y) else Y) = bif (b1 && b2) then X else Y := by cases b1 <;> cases b2 <;> rfl
theorem symOne (cap : Cap) (Rc) (u : Al) (y p s : List Al) (fu : Nat) (hfu : 900 < fu) (hs : (p ++ (u :: (y ++ s))).length < 200) (hy : Srt cap y) (hO : Okl cap (p ++ (u :: (y ++ s)))) :
    ∃ z, z.Perm (u :: y) ∧ Srt cap z ∧ (K60_0 Rc fu).1 (((p.length : Int), (((p.length + 1 : Nat) : Int), ((p.length + 1 + y.length : Nat) : Int))), SS cap (p ++ (u :: (y ++ s)))) = some (SS cap (p ++ (z ++ s))) := by
  have ll : (p ++ (u :: (y ++ s))).length = p.length + 1 + y.length + s.length := by simp; omega
  rw [ll] at hs
  have gu : (p ++ (u :: (y ++ s))).getD p.length dz = u := by simp [List.getD]
  have gy : ∀ k, k < y.length → (p ++ (u :: (y ++ s))).getD (p.length + 1 + k) dz = y.getD k dz := by
    intro k hk
    have := gD_app (p ++ [u]) (x := y) (s := s) hk
    rw [show (p ++ [u]).length = p.length + 1 by simp] at this
    rw [← this]; simp
  obtain ⟨f', r, hf', hB, he⟩ := srch1 cap Rc (p ++ (u :: (y ++ s))) p.length (p.length + 1) (p.length + 1 + y.length) (by omega) hO (by omega) (by omega) (by
    intro k l h1 h2 h3 h4
    rw [gu] at *
    obtain ⟨k, rfl⟩ : ∃ q, k = p.length + 1 + q := ⟨k - (p.length + 1), by omega⟩
    obtain ⟨l, rfl⟩ : ∃ q, l = p.length + 1 + q := ⟨l - (p.length + 1), by omega⟩
    rw [gy _ (by omega)] at *
    have := srt_idx hy (show k ≤ l by omega) (by omega)
    by_cases c : cmpv cap (y.getD k dz) u < 0
    · exact c
    · exact absurd h4 (le_tr' c this)) y.length (p.length + 1) (p.length + 1 + y.length) fu (by omega) (by omega) (by omega) (by omega) (by omega) (fun k h1 h2 => by omega) (fun k h1 h2 => by omega)
  have r1 := hB.l
  have r2 := hB.h
  obtain ⟨q, hq⟩ : ∃ q, r = p.length + 1 + q := ⟨r - (p.length + 1), by omega⟩
  have hy12 : y = y.take q ++ y.drop q := (List.take_append_drop _ _).symm
  have l1 : (y.take q).length = q := by simp; omega
  have low : ∀ v ∈ y.take q, cmpv cap v u < 0 := by
    intro v hv
    obtain ⟨i, h1, h2, rfl⟩ := mem_take_idx hv
    have := hB.low (p.length + 1 + i) (by omega) (by omega)
    rwa [gu, gy _ h2] at this
  have up : ∀ v ∈ y.drop q, le cap u v := by
    intro v hv
    obtain ⟨i, h1, h2, rfl⟩ := mem_drop_idx hv
    have := hB.up (p.length + 1 + i) (by omega) (by omega)
    rwa [gu, gy _ h2] at this
  have hys : Srt cap (y.take q ++ y.drop q) := by rw [← hy12]; exact hy
  generalize y.take q = y1 at *
  generalize y.drop q = y2 at *
  obtain ⟨s1, s2, s3⟩ := srt_app.1 hys
  refine ⟨y1 ++ u :: y2, ?_, ?_, he.trans ?_⟩
  · rw [hy12]
    exact List.perm_middle
  · refine srt_app.2 ⟨s1, List.pairwise_cons.2 ⟨up, s2⟩, ?_⟩
    intro a ha b hb
    rcases List.mem_cons.1 hb with rfl | hb
    · exact lt_as cap (low a ha)
    · exact s3 a ha b hb
  · rw [hy12]
    have e1 : p ++ (u :: ((y1 ++ y2) ++ s)) = p ++ u :: (y1 ++ (y2 ++ s)) := by simp
    have e2 : p ++ ((y1 ++ u :: y2) ++ s) = p ++ (y1 ++ u :: (y2 ++ s)) := by simp
    have hly : y.length = y1.length + y2.length := by rw [hy12]; simp
    rw [e1, e2]
    exact shift1 cap Rc u (y2 ++ s) y1 p r f' (by omega) (by simp; omega) (by omega)
theorem symLast (cap : Cap) (Rc) (v : Al) (x p s : List Al) (fu : Nat) (hfu : 900 < fu) (hs : (p ++ (x ++ (v :: s))).length < 200) (hx : Srt cap x) (hO : Okl cap (p ++ (x ++ (v :: s)))) :
    ∃ z, z.Perm (x ++ [v]) ∧ Srt cap z ∧ (K60_0 Rc fu).2.2.1 ((((p.length + x.length : Nat) : Int), ((p.length : Int), ((p.length + x.length : Nat) : Int))), SS cap (p ++ (x ++ (v :: s)))) = some (SS cap (p ++ (z ++ s))) := by
  have ll : (p ++ (x ++ (v :: s))).length = p.length + x.length + 1 + s.length := by simp; omega
  rw [ll] at hs
  have gv : (p ++ (x ++ (v :: s))).getD (p.length + x.length) dz = v := by
    have e : p ++ (x ++ (v :: s)) = (p ++ x) ++ v :: s := by simp
    rw [e, show p.length + x.length = (p ++ x).length by simp]
    simp only [List.getD, at1]; rfl
  have gx : ∀ k, k < x.length → (p ++ (x ++ (v :: s))).getD (p.length + k) dz = x.getD k dz := fun k hk => gD_app p hk
  obtain ⟨f', r, hf', hB, he⟩ := srch2 cap Rc (p ++ (x ++ (v :: s))) (p.length + x.length) p.length (p.length + x.length) (by omega) hO (by omega) (by omega) (by
    intro k l h1 h2 h3 h4
    rw [gv] at *
    obtain ⟨k, rfl⟩ : ∃ q, k = p.length + q := ⟨k - p.length, by omega⟩
    obtain ⟨l, rfl⟩ : ∃ q, l = p.length + q := ⟨l - p.length, by omega⟩
    rw [gx _ (by omega)] at *
    exact le_tr' (srt_idx hx (show k ≤ l by omega) (by omega)) h4) x.length p.length (p.length + x.length) fu (by omega) (by omega) (by omega) (by omega) (by omega) (fun k h1 h2 => by omega) (fun k h1 h2 => by omega)
  have r1 := hB.l
  have r2 := hB.h
  obtain ⟨q, hq⟩ : ∃ q, r = p.length + q := ⟨r - p.length, by omega⟩
  have hx12 : x = x.take q ++ x.drop q := (List.take_append_drop _ _).symm
  have l1 : (x.take q).length = q := by simp; omega
  have low : ∀ w ∈ x.take q, le cap w v := by
    intro w hw
    obtain ⟨i, h1, h2, rfl⟩ := mem_take_idx hw
    have := hB.low (p.length + i) (by omega) (by omega)
    rwa [gv, gx _ h2] at this
  have up : ∀ w ∈ x.drop q, le cap v w := by
    intro w hw
    obtain ⟨i, h1, h2, rfl⟩ := mem_drop_idx hw
    have := hB.up (p.length + i) (by omega) (by omega)
    rw [gv, gx _ h2] at this
    exact lt_as cap (Decidable.not_not.1 this)
  have hxs : Srt cap (x.take q ++ x.drop q) := by rw [← hx12]; exact hx
  generalize x.take q = x1 at *
  generalize x.drop q = x2 at *
  obtain ⟨s1, s2, s3⟩ := srt_app.1 hxs
  refine ⟨x1 ++ v :: x2, ?_, ?_, he.trans ?_⟩
  · rw [hx12, List.append_assoc]
    exact List.Perm.append_left x1 (List.perm_append_comm (l₁ := [v]) (l₂ := x2))
  · refine srt_app.2 ⟨s1, List.pairwise_cons.2 ⟨up, s2⟩, ?_⟩
    intro a ha b hb
    rcases List.mem_cons.1 hb with rfl | hb
    · exact low a ha
    · exact s3 a ha b hb
  · have hlx : x.length = x1.length + x2.length := by rw [hx12]; simp
    rw [hx12]
    have e1 : p ++ ((x1 ++ x2) ++ (v :: s)) = (p ++ x1) ++ (x2 ++ v :: s) := by simp
    have e2 : p ++ ((x1 ++ v :: x2) ++ s) = (p ++ x1) ++ v :: (x2 ++ s) := by simp
    rw [e1, e2]
    have := shift2 cap Rc v (p ++ x1) x2.length x2 s (p.length + (x1 ++ x2).length) f' rfl (by simp; omega) (by simp; omega) (by omega)
    rw [show ((p ++ x1).length : Int) = (r : Int) by simp; omega] at this
    exact this
set_option maxHeartbeats 4000000 in
theorem symD (cap : Cap) (N : Nat) (Rc) (hR : Spec cap N Rc) (fu : Nat) (hfu : 900 < fu) : Spec cap (N + 1) (E60_0 Rc (K60_0 Rc fu)) := by
  intro p x y s A M B hA hM hB hx hy hN hs sx sy hO
  have hx1 : 0 < x.length := by cases x; exact absurd rfl hx; simp
  have hy1 : 0 < y.length := by cases y; exact absurd rfl hy; simp
  have ll : (p ++ (x ++ (y ++ s))).length = p.length + x.length + y.length + s.length := by simp; omega
  rw [ll] at hs
  subst hA hM hB
  have w1 : IntKind.wrap .i64 (((p.length + x.length : Nat) : Int) - (p.length : Int)) = (x.length : Int) := by rw [w64 (by omega)]; omega
  have w2 : IntKind.wrap .i64 (((p.length + x.length + y.length : Nat) : Int) - ((p.length + x.length : Nat) : Int)) = (y.length : Int) := by rw [w64 (by omega)]; omega
  by_cases c1 : x.length = 1
  · obtain ⟨u, rfl⟩ : ∃ u, x = [u] := List.length_eq_one_iff.1 c1
    obtain ⟨z, h1, h2, h3⟩ := symOne cap Rc u y p s fu hfu (by simp; omega) sy hO
    refine ⟨z, h1, h2, ?_⟩
    unfold E60_0
    simp only [TT, w1]
    rw [show ((([u] : List Al).length : Int) == 1) = true from rfl, cond_true]
    exact h3
  by_cases c2 : y.length = 1
  · obtain ⟨v, rfl⟩ : ∃ u, y = [u] := List.length_eq_one_iff.1 c2
    obtain ⟨z, h1, h2, h3⟩ := symLast cap Rc v x p s fu hfu (by simp; omega) sx hO
    refine ⟨z, h1, h2, ?_⟩
    unfold E60_0
    simp only [TT, w1, w2]
    rw [show ((x.length : Int) == 1) = false from beq_eq_false_iff_ne.2 (by omega), cond_false, show ((([v] : List Al).length : Int) == 1) = true from rfl, cond_true]
    exact h3
  have mE := midE (i := p.length) (j := p.length + x.length + y.length) (by omega)
  obtain ⟨mid, hmid⟩ : ∃ mid, mid = (p.length + (p.length + x.length + y.length)) / 2 := ⟨_, rfl⟩
  rw [← hmid] at mE
  obtain ⟨a, ha⟩ : ∃ a, a = p.length := ⟨_, rfl⟩
  obtain ⟨m, hm⟩ : ∃ m, m = p.length + x.length := ⟨_, rfl⟩
  obtain ⟨b, hb⟩ : ∃ b, b = p.length + x.length + y.length := ⟨_, rfl⟩
  have w3 : IntKind.wrap .i64 ((mid : Int) + ((p.length + x.length : Nat) : Int)) = ((mid + m : Nat) : Int) := by rw [w64 (by omega)]; omega
  have w4 : IntKind.wrap .i64 (((mid + m : Nat) : Int) - 1) = ((mid + m - 1 : Nat) : Int) := by rw [w64 (by omega)]; omega
  have gx : ∀ k, k < x.length → (p ++ (x ++ (y ++ s))).getD (a + k) dz = x.getD k dz := fun k hk => by rw [ha]; exact gD_app p hk
  have gy : ∀ k, k < y.length → (p ++ (x ++ (y ++ s))).getD (m + k) dz = y.getD k dz := by
    intro k hk
    have := gD_app (p ++ x) (x := y) (s := s) hk
    rw [show (p ++ x).length = m by simp; omega] at this
    rw [← this]; simp
  -- the search, from lo to hi
  have main : ∀ lo hi : Nat, (mid < m → lo = mid + m - b ∧ hi = mid) → (m ≤ mid → lo = a ∧ hi = m) →
      ∃ z, z.Perm (x ++ y) ∧ Srt cap z ∧ (K60_0 Rc fu).2.2.2.2 (((a : Int), ((m : Int), ((b : Int), ((mid : Int), (((mid + m : Nat) : Int), ((lo : Int), ((hi : Int), ((mid + m - 1 : Nat) : Int)))))))), SS cap (p ++ (x ++ (y ++ s)))) = some (SS cap (p ++ (z ++ s))) := by
    intro lo hi k1 k2
    have hlohi : a ≤ lo ∧ lo ≤ hi ∧ hi ≤ m ∧ m ≤ mid + m - hi ∧ mid + m - lo ≤ b := by
      rcases Nat.lt_or_ge mid m with c | c
      · have := k1 c; omega
      · have := k2 c; omega
    have idx1 : ∀ c, lo ≤ c → c < hi → ∃ i j, c = a + i ∧ i < x.length ∧ mid + m - 1 - c = m + j ∧ j < y.length := fun c h1 h2 => ⟨c - a, mid + m - 1 - c - m, by omega, by omega, by omega, by omega⟩
    obtain ⟨f', r, hf', hf0, hB, he⟩ := srch3 cap Rc (p ++ (x ++ (y ++ s))) a m b mid (mid + m) (mid + m - 1) lo hi (by omega) hO (fun c h1 h2 => by omega) (by omega) (by
      intro k l h1 h2 h3 h4
      obtain ⟨i, j, q1, q2, q3, q4⟩ := idx1 k h1 (by omega)
      obtain ⟨i', j', q1', q2', q3', q4'⟩ := idx1 l (by omega) h3
      rw [q3', gy _ q4', q1', gx _ q2'] at h4
      rw [q3, gy _ q4, q1, gx _ q2]
      exact le_tr' (le_tr' (srt_idx sx (show i ≤ i' by omega) q2') h4) (srt_idx sy (show j' ≤ j by omega) q4)) (hi - lo) lo hi fu (Nat.le_refl _) (Nat.le_refl _) hlohi.2.1 (Nat.le_refl _) (by omega) (by omega) (fun k h1 h2 => by omega) (fun k h1 h2 => by omega)
    have r1 := hB.l
    have r2 := hB.h
    obtain ⟨en, hen⟩ : ∃ en, en = mid + m - r := ⟨_, rfl⟩
    have hx12 : x = x.take (r - a) ++ x.drop (r - a) := (List.take_append_drop _ _).symm
    have hy12 : y = y.take (en - m) ++ y.drop (en - m) := (List.take_append_drop _ _).symm
    have lx1 : (x.take (r - a)).length = r - a := by simp; omega
    have ly1 : (y.take (en - m)).length = en - m := by simp; omega
    have lx2 : (x.drop (r - a)).length = x.length - (r - a) := by simp
    have ly2 : (y.drop (en - m)).length = y.length - (en - m) := by simp
    -- the lower halves are not beyond the upper ones
    have c12 : ∀ u ∈ x.take (r - a), ∀ v ∈ y.drop (en - m), le cap u v := by
      intro u hu v hv
      obtain ⟨i, i1, i2, rfl⟩ := mem_take_idx hu
      obtain ⟨j, j1, j2, rfl⟩ := mem_drop_idx hv
      have hr : lo < r := by
        rcases Nat.lt_or_ge mid m with c | c
        · have := k1 c; omega
        · have := k2 c; omega
      have P := hB.low (r - 1) (by omega) (by omega)
      rw [show mid + m - 1 - (r - 1) = m + (en - m) by omega, gy _ (by omega), show r - 1 = a + (r - 1 - a) by omega, gx _ (by omega)] at P
      exact le_tr' (le_tr' (srt_idx sx (show i ≤ r - 1 - a by omega) (by omega)) P) (srt_idx sy j1 j2)
    have c21 : ∀ u ∈ y.take (en - m), ∀ v ∈ x.drop (r - a), le cap u v := by
      intro u hu v hv
      obtain ⟨i, i1, i2, rfl⟩ := mem_take_idx hu
      obtain ⟨j, j1, j2, rfl⟩ := mem_drop_idx hv
      have hr : r < hi := by
        rcases Nat.lt_or_ge mid m with c | c
        · have := k1 c; omega
        · have := k2 c; omega
      have P := Decidable.not_not.1 (hB.up r (Nat.le_refl _) hr)
      rw [show mid + m - 1 - r = m + (en - 1 - m) by omega, gy _ (by omega), show r = a + (r - a) by omega, gx _ (by omega)] at P
      exact le_tr' (le_tr' (srt_idx sy (show i ≤ en - 1 - m by omega) (by omega)) (lt_as cap P)) (srt_idx sx (by omega) j2)
    have sxx : Srt cap (x.take (r - a) ++ x.drop (r - a)) := by rw [← hx12]; exact sx
    have syy : Srt cap (y.take (en - m) ++ y.drop (en - m)) := by rw [← hy12]; exact sy
    have hP : (x.take (r - a) ++ y.take (en - m) ++ (x.drop (r - a) ++ y.drop (en - m))).Perm (x ++ y) := by
      conv => rhs; rw [hx12, hy12]
      generalize x.take (r - a) = x1
      generalize x.drop (r - a) = x2
      generalize y.take (en - m) = y1
      generalize y.drop (en - m) = y2
      have e1 : x1 ++ y1 ++ (x2 ++ y2) = x1 ++ ((y1 ++ x2) ++ y2) := by simp
      have e2 : x1 ++ x2 ++ (y1 ++ y2) = x1 ++ ((x2 ++ y1) ++ y2) := by simp
      rw [e1, e2]
      exact List.Perm.append_left x1 (List.Perm.append_right y2 List.perm_append_comm)
    have hd : p ++ (x ++ (y ++ s)) = p ++ ((x.take (r - a) ++ x.drop (r - a)) ++ ((y.take (en - m) ++ y.drop (en - m)) ++ s)) := by rw [← hx12, ← hy12]
    rw [hd] at he hO
    generalize x.take (r - a) = x1 at *
    generalize x.drop (r - a) = x2 at *
    generalize y.take (en - m) = y1 at *
    generalize y.drop (en - m) = y2 at *
    obtain ⟨sx1, sx2, sx3⟩ := srt_app.1 sxx
    obtain ⟨sy1, sy2, sy3⟩ := srt_app.1 syy
    have hd1 : p ++ ((x1 ++ x2) ++ ((y1 ++ y2) ++ s)) = (p ++ x1) ++ (x2 ++ (y1 ++ (y2 ++ s))) := by simp
    have hd2 : (p ++ x1) ++ (y1 ++ (x2 ++ (y2 ++ s))) = p ++ (x1 ++ (y1 ++ (x2 ++ (y2 ++ s)))) := by simp
    have hO' : Okl cap (p ++ (x1 ++ (y1 ++ (x2 ++ (y2 ++ s))))) := by
      intro v hv
      apply hO v
      simp only [List.mem_append] at hv ⊢
      rcases hv with h | h | h | h | h | h
      · exact .inl h
      · exact .inr (.inl (.inl h))
      · exact .inr (.inr (.inl (.inl h)))
      · exact .inr (.inl (.inr h))
      · exact .inr (.inr (.inl (.inr h)))
      · exact .inr (.inr (.inr h))
    -- rotation
    have eR : (decide ((r : Int) < (m : Int)) && decide ((m : Int) < (en : Int))) = true → F64_0 (((r : Int), ((m : Int), (en : Int))), TT cap (p ++ ((x1 ++ x2) ++ ((y1 ++ y2) ++ s)))) = some (SS cap (p ++ (x1 ++ (y1 ++ (x2 ++ (y2 ++ s)))))) := by
      intro h
      simp only [Bool.and_eq_true, decide_eq_true_eq] at h
      rw [hd1, ← hd2]
      exact rot cap x2 y1 (p ++ x1) (y2 ++ s) _ _ _ (by simp; omega) (by simp; omega) (by simp; omega) (by intro h0; rw [h0] at lx2; simp at lx2; omega) (by intro h0; rw [h0] at ly1; simp at ly1; omega) (by simp; omega)
    have eR0 : (decide ((r : Int) < (m : Int)) && decide ((m : Int) < (en : Int))) = false → p ++ ((x1 ++ x2) ++ ((y1 ++ y2) ++ s)) = p ++ (x1 ++ (y1 ++ (x2 ++ (y2 ++ s)))) := by
      intro h
      simp only [Bool.and_eq_false_iff, decide_eq_false_iff_not] at h
      rcases h with h | h
      · obtain rfl : x2 = [] := List.eq_nil_of_length_eq_zero (by omega)
        simp
      · obtain rfl : y1 = [] := List.eq_nil_of_length_eq_zero (by omega)
        simp
    -- the lower half
    obtain ⟨z1, pz1, sz1, eL, eL0⟩ : ∃ z1, z1.Perm (x1 ++ y1) ∧ Srt cap z1 ∧ ((decide ((a : Int) < (r : Int)) && decide ((r : Int) < (mid : Int))) = true → Rc (((a : Int), ((r : Int), (mid : Int))), TT cap (p ++ (x1 ++ (y1 ++ (x2 ++ (y2 ++ s)))))) = some (SS cap (p ++ (z1 ++ (x2 ++ (y2 ++ s)))))) ∧ ((decide ((a : Int) < (r : Int)) && decide ((r : Int) < (mid : Int))) = false → p ++ (x1 ++ (y1 ++ (x2 ++ (y2 ++ s)))) = p ++ (z1 ++ (x2 ++ (y2 ++ s)))) := by
      by_cases hL : a < r ∧ r < mid
      · obtain ⟨z, q1, q2, q3⟩ := hR p x1 y1 (x2 ++ (y2 ++ s)) (a : Int) (r : Int) (mid : Int) (by omega) (by omega) (by omega) (by intro h0; rw [h0] at lx1; simp at lx1; omega) (by intro h0; rw [h0] at ly1; simp at ly1; omega) (by omega) (by simp; omega) sx1 sy1 hO'
        refine ⟨z, q1, q2, fun _ => q3, fun h => ?_⟩
        simp only [Bool.and_eq_false_iff, decide_eq_false_iff_not] at h
        omega
      · refine ⟨x1 ++ y1, List.Perm.refl _, ?_, fun h => ?_, fun _ => by simp⟩
        · rcases Nat.lt_or_ge a r with h | h
          · obtain rfl : y1 = [] := List.eq_nil_of_length_eq_zero (by omega)
            rw [List.append_nil]; exact sx1
          · obtain rfl : x1 = [] := List.eq_nil_of_length_eq_zero (by omega)
            exact sy1
        · simp only [Bool.and_eq_true, decide_eq_true_eq] at h
          omega
    have lz1 : z1.length = (r - a) + (en - m) := by rw [pz1.length_eq]; simp; omega
    have hO2 : Okl cap ((p ++ z1) ++ (x2 ++ (y2 ++ s))) := by
      intro v hv
      apply hO' v
      simp only [List.mem_append] at hv ⊢
      rcases hv with (h | h) | h | h | h
      · exact .inl h
      · rcases List.mem_append.1 (pz1.subset h) with h | h
        · exact .inr (.inl h)
        · exact .inr (.inr (.inl h))
      · exact .inr (.inr (.inr (.inl h)))
      · exact .inr (.inr (.inr (.inr (.inl h))))
      · exact .inr (.inr (.inr (.inr (.inr h))))
    obtain ⟨z2, pz2, sz2, eU, eU0⟩ : ∃ z2, z2.Perm (x2 ++ y2) ∧ Srt cap z2 ∧ ((decide ((mid : Int) < (en : Int)) && decide ((en : Int) < (b : Int))) = true → Rc (((mid : Int), ((en : Int), (b : Int))), TT cap (p ++ (z1 ++ (x2 ++ (y2 ++ s))))) = some (SS cap (p ++ ((z1 ++ z2) ++ s)))) ∧ ((decide ((mid : Int) < (en : Int)) && decide ((en : Int) < (b : Int))) = false → p ++ (z1 ++ (x2 ++ (y2 ++ s))) = p ++ ((z1 ++ z2) ++ s)) := by
      have g1 : p ++ (z1 ++ (x2 ++ (y2 ++ s))) = (p ++ z1) ++ (x2 ++ (y2 ++ s)) := by simp
      by_cases hU : mid < en ∧ en < b
      · obtain ⟨z, q1, q2, q3⟩ := hR (p ++ z1) x2 y2 s (mid : Int) (en : Int) (b : Int) (by simp; omega) (by simp; omega) (by simp; omega) (by intro h0; rw [h0] at lx2; simp at lx2; omega) (by intro h0; rw [h0] at ly2; simp at ly2; omega) (by omega) (by simp; omega) sx2 sy2 hO2
        refine ⟨z, q1, q2, fun _ => ?_, fun h => ?_⟩
        · rw [g1, q3]; simp
        · simp only [Bool.and_eq_false_iff, decide_eq_false_iff_not] at h
          omega
      · refine ⟨x2 ++ y2, List.Perm.refl _, ?_, fun h => ?_, fun _ => by simp⟩
        · rcases Nat.lt_or_ge mid en with h | h
          · obtain rfl : y2 = [] := List.eq_nil_of_length_eq_zero (by omega)
            rw [List.append_nil]; exact sx2
          · obtain rfl : x2 = [] := List.eq_nil_of_length_eq_zero (by omega)
            exact sy2
        · simp only [Bool.and_eq_true, decide_eq_true_eq] at h
          omega
    refine ⟨z1 ++ z2, (List.Perm.append pz1 pz2).trans hP, ?_, ?_⟩
    · refine srt_app.2 ⟨sz1, sz2, ?_⟩
      intro u hu v hv
      rcases List.mem_append.1 (pz1.subset hu) with h | h
      · rcases List.mem_append.1 (pz2.subset hv) with g | g
        · exact sx3 u h v g
        · exact c12 u h v g
      · rcases List.mem_append.1 (pz2.subset hv) with g | g
        · exact c21 u h v g
        · exact sy3 u h v g
    · rw [hd]
      refine he.trans ?_
      obtain ⟨f', rfl⟩ : ∃ g, f' = g + 1 := ⟨f' - 1, by omega⟩
      refine (syK5 _ _ _).trans ?_
      unfold B60_0_33
      simp only []
      rw [decide_eq_false (by omega), cond_false]
      have wE : IntKind.wrap .i64 (((mid + m : Nat) : Int) - (r : Int)) = (en : Int) := by rw [w64 (by omega)]; omega
      simp only [wE, bif2]
      simp only [SS, TT] at eR eL eU ⊢
      cases hb1 : (decide ((r : Int) < (m : Int)) && decide ((m : Int) < (en : Int))) <;> cases hb2 : (decide ((a : Int) < (r : Int)) && decide ((r : Int) < (mid : Int))) <;> cases hb3 : (decide ((mid : Int) < (en : Int)) && decide ((en : Int) < (b : Int)))
      · simp only [cond_false]; rw [eR0 hb1, eL0 hb2, eU0 hb3]
      · simp only [cond_false, cond_true]; rw [eR0 hb1, eL0 hb2, eU hb3, bndS]
      · simp only [cond_false, cond_true]; rw [eR0 hb1, eL hb2, bndS, eU0 hb3]
      · simp only [cond_false, cond_true]; rw [eR0 hb1, eL hb2, bndS, eU hb3, bndS]
      · simp only [cond_false, cond_true]; rw [eR hb1, bndS, eL0 hb2, eU0 hb3]
      · simp only [cond_false, cond_true]; rw [eR hb1, bndS, eL0 hb2, eU hb3, bndS]
      · simp only [cond_false, cond_true]; rw [eR hb1, bndS, eL hb2, bndS, eU0 hb3]
      · simp only [cond_true]; rw [eR hb1, bndS, eL hb2, bndS, eU hb3, bndS]
  rcases Nat.lt_or_ge mid m with c | c
  · obtain ⟨z, h1, h2, h3⟩ := main (mid + m - b) mid (fun _ => ⟨rfl, rfl⟩) (fun h => by omega)
    refine ⟨z, h1, h2, ?_⟩
    unfold E60_0
    simp only [TT, w1, w2]
    rw [show ((x.length : Int) == 1) = false from beq_eq_false_iff_ne.2 (by omega), cond_false, show ((y.length : Int) == 1) = false from beq_eq_false_iff_ne.2 (by omega), cond_false, mE, decide_eq_true (by omega), cond_true, w3, w4]
    have w5 : IntKind.wrap .i64 (((mid + m : Nat) : Int) - ((p.length + x.length + y.length : Nat) : Int)) = ((mid + m - b : Nat) : Int) := by rw [w64 (by omega)]; omega
    rw [w5, ← hb, ← hm, ← ha]
    exact h3
  · obtain ⟨z, h1, h2, h3⟩ := main a m (fun h => by omega) (fun _ => ⟨rfl, rfl⟩)
    refine ⟨z, h1, h2, ?_⟩
    unfold E60_0
    simp only [TT, w1, w2]
    rw [show ((x.length : Int) == 1) = false from beq_eq_false_iff_ne.2 (by omega), cond_false, show ((y.length : Int) == 1) = false from beq_eq_false_iff_ne.2 (by omega), cond_false, mE, decide_eq_false (by omega), cond_false, w3, w4, ← hb, ← hm, ← ha]
    exact h3
theorem symQ (cap : Cap) : ∀ n, Spec cap n (Q60_0 (n + 1)) := by
  intro n
  induction n with
  | zero =>
    intro p x y s A M B hA hM hB hx hy hN
    have hx1 : 0 < x.length := by cases x; exact absurd rfl hx; simp
    omega
  | succ n ih => exact symD cap n _ ih 1000 (by decide)
theorem sym (cap : Cap) : Spec cap 99 F60_0 := symQ cap 99
end Go.Proofs.Ytgjglkogengmbaa.Ev
