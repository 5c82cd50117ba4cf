/- All of the sort: blocks, and their merging. -/
import Derived.Test.YtgjglkogengmbaaMSort2B
set_option linter.unusedVariables false
set_option linter.unusedSimpArgs false
namespace Go.Proofs.Ytgjglkogengmbaa.Ev
open Go

def Bl (cap : Cap) (bs : Nat) (L : List (List Al)) : Prop := ∀ l ∈ L, l.length = bs ∧ Srt cap l
theorem Bl.len {cap : Cap} {bs : Nat} : ∀ {L : List (List Al)}, Bl cap bs L → L.flatten.length = L.length * bs := by
  intro L
  induction L with
  | nil => intro _; simp
  | cons l L ih =>
    intro h
    have h1 := (h l (by simp)).1
    have h2 := ih (fun x hx => h x (by simp [hx]))
    rw [List.flatten_cons, List.length_append, h1, h2, List.length_cons, Nat.succ_mul]; omega
theorem Bl.snoc {cap : Cap} {bs : Nat} {L : List (List Al)} {z : List Al} (h : Bl cap bs L) (h1 : z.length = bs) (h2 : Srt cap z) : Bl cap bs (L ++ [z]) := by
  intro l hl
  rcases List.mem_append.1 hl with g | g
  · exact h l g
  · simp at g; subst g; exact ⟨h1, h2⟩
theorem flat_snoc {α : Type} (L : List (List α)) (z : List α) : (L ++ [z]).flatten = L.flatten ++ z := by simp
theorem stK1 (n : Nat) (v) : (K51_0 (n + 1)).1 v = B51_0_2 (K51_0 n) v := rfl
theorem stK2 (n : Nat) (v) : (K51_0 (n + 1)).2.1 v = B51_0_7 (K51_0 n) v := rfl
theorem stK3 (n : Nat) (v) : (K51_0 (n + 1)).2.2 v = B51_0_9 (K51_0 n) v := rfl
theorem st_ins (cap : Cap) (n : Nat) (hn : n < 90) : ∀ (k : Nat) (r : List Al) (L : List (List Al)) (f : Nat), r.length ≤ k → L.flatten.length + r.length = n → Bl cap 20 L → Okl cap (L.flatten ++ r) → k + 1 < f →
    ∃ f' L' t, f ≤ f' + k + 1 ∧ Bl cap 20 L' ∧ Srt cap t ∧ t.length < 20 ∧ (L'.flatten ++ t).Perm (L.flatten ++ r) ∧ (K51_0 f).1 (((n : Int), ((20 : Int), ((L.flatten.length : Int), ((L.flatten.length + 20 : Nat) : Int)))), SS cap (L.flatten ++ r)) = (K51_0 f').2.1 (((n : Int), (20 : Int)), SS cap (L'.flatten ++ t)) := by
  intro k
  induction k with
  | zero =>
    intro r L f hk hL hB hO hf
    obtain ⟨f, rfl⟩ : ∃ g, f = g + 1 := ⟨f - 1, by omega⟩
    obtain rfl : r = [] := List.eq_nil_of_length_eq_zero (by omega)
    obtain ⟨z, h1, h2, h3⟩ := insS cap L.flatten [] [] (L.flatten.length : Int) (n : Int) rfl (by omega) (by simp) (by simp at hL ⊢; omega) (fun x hx => by cases hx)
    obtain rfl : z = [] := List.Perm.eq_nil h1
    refine ⟨f, L, [], by omega, hB, List.Pairwise.nil, by simp, List.Perm.refl _, ?_⟩
    refine (stK1 _ _).trans ?_
    unfold B51_0_2
    simp only []
    simp only [List.length_nil] at hL
    rw [decide_eq_false (by omega), cond_false]
    simp only [TT, SS, List.append_nil] at h3 ⊢
    rw [h3, bndS]
  | succ k ih =>
    intro r L f hk hL hB hO hf
    obtain ⟨f, rfl⟩ : ∃ g, f = g + 1 := ⟨f - 1, by omega⟩
    by_cases h20 : 20 ≤ r.length
    · have hr : r = r.take 20 ++ r.drop 20 := (List.take_append_drop _ _).symm
      have l1 : (r.take 20).length = 20 := by simp; omega
      have l2 : (r.drop 20).length = r.length - 20 := by simp
      rw [hr] at hO ⊢
      generalize r.take 20 = x at *
      generalize r.drop 20 = r' at *
      have hO' := Okl.app.1 hO
      have hOx := (Okl.app.1 hO'.2).1
      obtain ⟨z, h1, h2, h3⟩ := insS cap L.flatten x r' (L.flatten.length : Int) ((L.flatten.length + 20 : Nat) : Int) rfl (by omega) (by omega) (by simp at hL ⊢; omega) hOx
      have lz : z.length = 20 := by rw [h1.length_eq]; exact l1
      have e1 : L.flatten ++ (z ++ r') = (L ++ [z]).flatten ++ r' := by simp
      have lf : (L ++ [z]).flatten.length = L.flatten.length + 20 := by rw [flat_snoc, List.length_append, lz]
      have pz : ((L ++ [z]).flatten ++ r').Perm (L.flatten ++ (x ++ r')) := by
        rw [← e1]
        exact List.Perm.append_left _ (List.Perm.append_right r' h1)
      obtain ⟨f', L', t, q1, q2, q3, q4, q5, q6⟩ := ih r' (L ++ [z]) f (by omega) (by rw [lf]; omega) (hB.snoc lz h2) (Okl.perm pz hO) (by omega)
      refine ⟨f', L', t, by omega, q2, q3, q4, q5.trans pz, ?_⟩
      refine (stK1 _ _).trans ?_
      unfold B51_0_2
      simp only []
      rw [decide_eq_true (by omega), cond_true]
      simp only [TT, SS] at h3 q6 ⊢
      rw [h3, bndS, w64 (by omega), e1]
      rw [lf] at q6
      rw [show ((L.flatten.length + 20 : Nat) : Int) + 20 = ((L.flatten.length + 20 + 20 : Nat) : Int) by omega]
      exact q6
    · have hOx := (Okl.app.1 hO).2
      obtain ⟨z, h1, h2, h3⟩ := insS cap L.flatten r [] (L.flatten.length : Int) (n : Int) rfl (by omega) (by omega) (by simp at hL ⊢; omega) hOx
      refine ⟨f, L, z, by omega, hB, h2, by rw [h1.length_eq]; omega, List.Perm.append_left _ h1, ?_⟩
      refine (stK1 _ _).trans ?_
      unfold B51_0_2
      simp only []
      rw [decide_eq_false (by omega), cond_false]
      simp only [TT, SS, List.append_nil] at h3 ⊢
      rw [h3, bndS]
theorem st_mrg (cap : Cap) (n bs : Nat) (hn : n < 90) (hbs : 0 < bs ∧ bs < n) : ∀ (k : Nat) (L1 L2 : List (List Al)) (t : List Al) (f : Nat), L1.length ≤ k → L2.flatten.length + (L1.flatten.length + t.length) = n → Bl cap bs L1 → Bl cap (2 * bs) L2 → Srt cap t → t.length < bs → Okl cap (L2.flatten ++ (L1.flatten ++ t)) → k + 1 < f →
    ∃ f' L' t', f ≤ f' + k + 1 ∧ Bl cap (2 * bs) L' ∧ Srt cap t' ∧ t'.length < 2 * bs ∧ (L'.flatten ++ t').Perm (L2.flatten ++ (L1.flatten ++ t)) ∧ (K51_0 f).2.2 (((n : Int), ((bs : Int), ((L2.flatten.length : Int), ((L2.flatten.length + 2 * bs : Nat) : Int)))), SS cap (L2.flatten ++ (L1.flatten ++ t))) = (K51_0 f').2.1 (((n : Int), ((2 * bs : Nat) : Int)), SS cap (L'.flatten ++ t')) := by
  intro k
  induction k with
  | zero =>
    intro L1 L2 t f hk hL hB1 hB2 hS ht hO hf
    obtain ⟨f, rfl⟩ : ∃ g, f = g + 1 := ⟨f - 1, by omega⟩
    obtain rfl : L1 = [] := List.eq_nil_of_length_eq_zero (by omega)
    refine ⟨f, L2, t, by omega, hB2, hS, by omega, by simp, ?_⟩
    refine (stK3 _ _).trans ?_
    unfold B51_0_9
    simp only []
    simp only [List.flatten_nil, List.length_nil] at hL
    rw [decide_eq_false (by omega), cond_false, w64 (by omega), decide_eq_false (by omega), cond_false, w64 (by omega), show (bs : Int) * 2 = ((2 * bs : Nat) : Int) by omega]
    rfl
  | succ k ih =>
    intro L1 L2 t f hk hL hB1 hB2 hS ht hO hf
    obtain ⟨f, rfl⟩ : ∃ g, f = g + 1 := ⟨f - 1, by omega⟩
    match L1, hk, hL, hB1, hO with
    | [], hk, hL, hB1, hO =>
      refine ⟨f, L2, t, by omega, hB2, hS, by omega, by simp, ?_⟩
      refine (stK3 _ _).trans ?_
      unfold B51_0_9
      simp only []
      simp only [List.flatten_nil, List.length_nil] at hL
      rw [decide_eq_false (by omega), cond_false, w64 (by omega), decide_eq_false (by omega), cond_false, w64 (by omega), show (bs : Int) * 2 = ((2 * bs : Nat) : Int) by omega]
      rfl
    | [x], hk, hL, hB1, hO =>
      have hx := hB1 x (by simp)
      simp only [List.flatten_cons, List.flatten_nil, List.append_nil] at hL hO ⊢
      by_cases h0 : t = []
      · subst h0
        refine ⟨f, L2, x, by omega, hB2, hx.2, by omega, by simp, ?_⟩
        refine (stK3 _ _).trans ?_
        unfold B51_0_9
        simp only []
        simp only [List.length_nil] at hL
        rw [decide_eq_false (by omega), cond_false, w64 (by omega), decide_eq_false (by omega), cond_false, w64 (by omega), show (bs : Int) * 2 = ((2 * bs : Nat) : Int) by omega, List.append_nil]
      · have ht0 : 0 < t.length := by cases t; exact absurd rfl h0; simp
        have hO' : Okl cap (L2.flatten ++ (x ++ (t ++ []))) := by rw [List.append_nil]; exact hO
        obtain ⟨z, h1, h2, h3⟩ := sym cap L2.flatten x t [] (L2.flatten.length : Int) ((L2.flatten.length + bs : Nat) : Int) (n : Int) rfl (by omega) (by omega) (by intro g; rw [g] at hx; simp at hx; omega) h0 (by omega) (by simp only [List.length_append, List.length_nil]; omega) hx.2 hS hO'
        refine ⟨f, L2, z, by omega, hB2, h2, by rw [h1.length_eq]; simp; omega, List.Perm.append_left _ h1, ?_⟩
        refine (stK3 _ _).trans ?_
        unfold B51_0_9
        simp only []
        rw [decide_eq_false (by omega), cond_false, w64 (by omega), decide_eq_true (by omega), cond_true]
        simp only [TT, SS, List.append_nil] at h3 ⊢
        rw [show (L2.flatten.length : Int) + (bs : Int) = ((L2.flatten.length + bs : Nat) : Int) by omega, h3, bndS, w64 (by omega), show (bs : Int) * 2 = ((2 * bs : Nat) : Int) by omega]
    | x :: y :: L1, hk, hL, hB1, hO =>
      have hx := hB1 x (by simp)
      have hy := hB1 y (by simp)
      simp only [List.length_cons] at hk
      have e0 : L2.flatten ++ ((x :: y :: L1).flatten ++ t) = L2.flatten ++ (x ++ (y ++ (L1.flatten ++ t))) := by simp
      have l0 : (x :: y :: L1).flatten.length = x.length + (y.length + L1.flatten.length) := by simp
      rw [l0] at hL
      rw [e0] at hO ⊢
      obtain ⟨z, h1, h2, h3⟩ := sym cap L2.flatten x y (L1.flatten ++ t) (L2.flatten.length : Int) ((L2.flatten.length + bs : Nat) : Int) ((L2.flatten.length + 2 * bs : Nat) : Int) rfl (by omega) (by omega) (by intro g; rw [g] at hx; simp at hx; omega) (by intro g; rw [g] at hy; simp at hy; omega) (by omega) (by simp only [List.length_append]; omega) hx.2 hy.2 hO
      have lz : z.length = 2 * bs := by rw [h1.length_eq]; simp; omega
      have e1 : L2.flatten ++ (z ++ (L1.flatten ++ t)) = (L2 ++ [z]).flatten ++ (L1.flatten ++ t) := by simp
      have lf : (L2 ++ [z]).flatten.length = L2.flatten.length + 2 * bs := by rw [flat_snoc, List.length_append, lz]
      have pz : ((L2 ++ [z]).flatten ++ (L1.flatten ++ t)).Perm (L2.flatten ++ (x ++ (y ++ (L1.flatten ++ t)))) := by
        rw [← e1]
        have := List.Perm.append_left L2.flatten (List.Perm.append_right (L1.flatten ++ t) h1)
        rw [List.append_assoc x y] at this
        exact this
      obtain ⟨f', L', t', q1, q2, q3, q4, q5, q6⟩ := ih L1 (L2 ++ [z]) t f (by omega) (by rw [lf]; omega) (fun l hl => hB1 l (by simp [hl])) (hB2.snoc lz h2) hS ht (Okl.perm pz hO) (by omega)
      refine ⟨f', L', t', by omega, q2, q3, q4, q5.trans pz, ?_⟩
      refine (stK3 _ _).trans ?_
      unfold B51_0_9
      simp only []
      rw [decide_eq_true (by omega), cond_true, w64 (show -9223372036854775808 ≤ (L2.flatten.length : Int) + (bs : Int) ∧ (L2.flatten.length : Int) + (bs : Int) ≤ 9223372036854775807 by omega), w64 (show -9223372036854775808 ≤ 2 * (bs : Int) ∧ 2 * (bs : Int) ≤ 9223372036854775807 by omega)]
      simp only [TT, SS] at h3 q6 ⊢
      rw [show (L2.flatten.length : Int) + (bs : Int) = ((L2.flatten.length + bs : Nat) : Int) by omega, h3, bndS, w64 (by omega), e1]
      rw [lf] at q6
      rw [show ((L2.flatten.length + 2 * bs : Nat) : Int) + 2 * (bs : Int) = ((L2.flatten.length + 2 * bs + 2 * bs : Nat) : Int) by omega]
      exact q6
theorem st_all (cap : Cap) (n : Nat) (hn : n < 90) : ∀ (ph bs : Nat) (L : List (List Al)) (t : List Al) (f : Nat), n ≤ bs * 2 ^ ph → 0 < bs → L.flatten.length + t.length = n → Bl cap bs L → Srt cap t → t.length < bs → Okl cap (L.flatten ++ t) → (ph + 1) * (n + 5) < f →
    ∃ z, z.Perm (L.flatten ++ t) ∧ Srt cap z ∧ (K51_0 f).2.1 (((n : Int), (bs : Int)), SS cap (L.flatten ++ t)) = some (SS cap z) := by
  intro ph
  induction ph with
  | zero =>
    intro bs L t f hp hb hL hB hS ht hO hf
    obtain ⟨f, rfl⟩ : ∃ g, f = g + 1 := ⟨f - 1, by omega⟩
    simp only [Nat.pow_zero, Nat.mul_one] at hp
    refine ⟨L.flatten ++ t, List.Perm.refl _, ?_, ?_⟩
    · have hlen := hB.len
      match L, hlen, hL, hB with
      | [], _, _, _ => exact hS
      | [x], hlen, hL, hB =>
        have hx := hB x (by simp)
        simp only [List.flatten_cons, List.flatten_nil, List.append_nil] at hL ⊢
        obtain rfl : t = [] := List.eq_nil_of_length_eq_zero (by omega)
        rw [List.append_nil]; exact hx.2
      | x :: y :: L, hlen, hL, hB =>
        simp only [List.length_cons] at hlen
        rw [Nat.add_mul, Nat.add_mul] at hlen
        omega
    · refine (stK2 _ _).trans ?_
      unfold B51_0_7
      rw [decide_eq_false (by simp only []; omega), cond_false]
  | succ ph ih =>
    intro bs L t f hp hb hL hB hS ht hO hf
    rw [Nat.succ_mul] at hf
    obtain ⟨f, rfl⟩ : ∃ g, f = g + 1 := ⟨f - 1, by omega⟩
    by_cases hbn : bs < n
    · have hlen := hB.len
      have hLn : L.length ≤ n := by
        have := Nat.mul_le_mul_left L.length (show 1 ≤ bs by omega)
        omega
      obtain ⟨f', L', t', q1, q2, q3, q4, q5, q6⟩ := st_mrg cap n bs (by omega) ⟨hb, hbn⟩ n L [] t f hLn (by simpa using hL) hB (fun l hl => by cases hl) hS ht hO (by omega)
      have hl' : L'.flatten.length + t'.length = n := by
        have := q5.length_eq
        simp only [List.length_append, List.flatten_nil, List.length_nil] at this
        omega
      obtain ⟨z, z1, z2, z3⟩ := ih (2 * bs) L' t' f' (by rw [Nat.pow_succ] at hp; rw [Nat.mul_comm 2 bs, Nat.mul_assoc, Nat.mul_comm 2]; exact hp) (by omega) hl' q2 q3 q4 (Okl.perm q5 hO) (by omega)
      refine ⟨z, z1.trans q5, z2, ?_⟩
      refine (stK2 _ _).trans ?_
      unfold B51_0_7
      rw [decide_eq_true (by simp only []; omega), cond_true]
      simp only []
      rw [w64 (by omega)]
      refine Eq.trans ?_ z3
      refine Eq.trans ?_ q6
      simp only [List.flatten_nil, List.length_nil, List.nil_append]
      rw [show ((0 + 2 * bs : Nat) : Int) = 2 * (bs : Int) by omega]
      rfl
    · -- as at the end
      refine ⟨L.flatten ++ t, List.Perm.refl _, ?_, ?_⟩
      · have hlen := hB.len
        match L, hlen, hL, hB with
        | [], _, _, _ => exact hS
        | [x], hlen, hL, hB =>
          have hx := hB x (by simp)
          simp only [List.flatten_cons, List.flatten_nil, List.append_nil] at hL ⊢
          obtain rfl : t = [] := List.eq_nil_of_length_eq_zero (by omega)
          rw [List.append_nil]; exact hx.2
        | x :: y :: L, hlen, hL, hB =>
          simp only [List.length_cons] at hlen
          rw [Nat.add_mul, Nat.add_mul] at hlen
          omega
      · refine (stK2 _ _).trans ?_
        unfold B51_0_7
        rw [decide_eq_false (by simp only []; omega), cond_false]
theorem stableS (cap : Cap) (d : List Al) (hn : d.length < 80) (hO : Okl cap d) : ∃ z, z.Perm d ∧ Srt cap z ∧ F51_0 ((d.length : Int), TT cap d) = some (SS cap z) := by
  have E : ∀ fu, 900 < fu → ∃ z, z.Perm d ∧ Srt cap z ∧ E51_0 (K51_0 fu) ((d.length : Int), TT cap d) = some (SS cap z) := by
    intro fu hfu
    obtain ⟨f', L', t, q1, q2, q3, q4, q5, q6⟩ := st_ins cap d.length (by omega) d.length d [] fu (Nat.le_refl _) (by simp) (fun l hl => by cases hl) hO (by omega)
    have hl' : L'.flatten.length + t.length = d.length := by
      have := q5.length_eq
      simp only [List.length_append, List.flatten_nil, List.nil_append] at this
      omega
    obtain ⟨z, z1, z2, z3⟩ := st_all cap d.length (by omega) 3 20 L' t f' (by omega) (by decide) hl' q2 q3 q4 (Okl.perm q5 hO) (by omega)
    refine ⟨z, z1.trans q5, z2, ?_⟩
    unfold E51_0
    simp only [TT]
    refine Eq.trans ?_ z3
    refine Eq.trans ?_ q6
    simp only [List.flatten_nil, List.length_nil, List.nil_append]
    rfl
  exact E 1000 (by decide)
end Go.Proofs.Ytgjglkogengmbaa.Ev
