/- Sorting that keeps equals in order: insertion, rotation, merging, all of it. -/
import Derived.Test.YtgjglkogengmbaaMSortHB
import Derived.Test.YtgjglkogengmbaaMNum
set_option linter.unusedVariables false
set_option linter.unusedSimpArgs false
namespace Go.Proofs.Ytgjglkogengmbaa.Ev
open Go

theorem bndS {α β : Type} (a : α) (f : α → Option β) : (some a).bind f = f a := (congrArg (fun x => Option.bind x f) (Eq.refl (some a))).trans (Eq.refl (f a))
theorem w64 {n : Int} (h : -9223372036854775808 ≤ n ∧ n ≤ 9223372036854775807) : IntKind.wrap .i64 n = n := wrap_i64 h
theorem wu64 {n : Int} (h : 0 ≤ n ∧ n ≤ 18446744073709551615) : IntKind.wrap .u64 n = n := wrap_u64 h
theorem idxE {n : Int} {k len : Nat} (h : n = (k : Int)) (h2 : k < len) : idx n len = some k := by
  subst h
  unfold idx
  rw [decide_eq_true (by omega)]; simp
/-- The middle. -/
theorem midE {i j : Nat} (h : i + j < 4611686018427387904) : IntKind.wrap .i64 (Int.fdiv (IntKind.wrap .u64 (IntKind.wrap .i64 ((i : Int) + (j : Int)))) (2 ^ 1)) = (((i + j) / 2 : Nat) : Int) := by
  have e : Int.fdiv ((i : Int) + (j : Int)) (2 ^ 1) = (((i + j) / 2 : Nat) : Int) := by
    rw [show ((2 : Int) ^ 1) = 2 from rfl, Int.fdiv_eq_ediv_of_nonneg _ (by decide)]; omega
  rw [w64 (show -9223372036854775808 ≤ (i : Int) + (j : Int) ∧ (i : Int) + (j : Int) ≤ 9223372036854775807 by omega), wu64 (by omega), e, w64 (by omega)]
/-! ### Lists -/
section
variable {α : Type}
theorem at1 (p : List α) (u : α) (r : List α) : (p ++ u :: r)[p.length]? = some u := by simp
theorem at2 (p : List α) (u : α) (q : List α) (v : α) (s : List α) : (p ++ u :: (q ++ v :: s))[p.length + 1 + q.length]? = some v := by
  have e : p ++ u :: (q ++ v :: s) = (p ++ u :: q) ++ v :: s := by simp
  have l : p.length + 1 + q.length = (p ++ u :: q).length := by simp; omega
  rw [e, l]; exact at1 _ _ _
theorem set1 (p : List α) (u v : α) (r : List α) : (p ++ u :: r).set p.length v = p ++ v :: r := by
  rw [List.set_append_right _ _ (Nat.le_refl _), Nat.sub_self]; rfl
theorem set2 (p : List α) (u : α) (q : List α) (v w : α) (s : List α) : (p ++ u :: (q ++ v :: s)).set (p.length + 1 + q.length) w = p ++ u :: (q ++ w :: s) := by
  have e : p ++ u :: (q ++ v :: s) = (p ++ u :: q) ++ v :: s := by simp
  have l : p.length + 1 + q.length = (p ++ u :: q).length := by simp; omega
  rw [e, l, set1]; simp
end
abbrev lt (cap : Cap) (x y : Al) : Prop := cmpv cap x y < 0
def le (cap : Cap) (x y : Al) : Prop := ¬ lt cap y x
def Srt (cap : Cap) (l : List Al) : Prop := l.Pairwise (le cap)
theorem le_tr' {cap : Cap} {x y z : Al} (h1 : le cap x y) (h2 : le cap y z) : le cap x z := le_tr cap h1 h2
theorem srt_app {cap : Cap} {a b : List Al} : Srt cap (a ++ b) ↔ Srt cap a ∧ Srt cap b ∧ ∀ x ∈ a, ∀ y ∈ b, le cap x y := List.pairwise_append
def Okl (cap : Cap) (l : List Al) : Prop := ∀ x ∈ l, Okc cap x
theorem Okl.app {cap : Cap} {a b : List Al} : Okl cap (a ++ b) ↔ Okl cap a ∧ Okl cap b := by
  unfold Okl
  constructor
  · intro h; exact ⟨fun x hx => h x (by simp [hx]), fun x hx => h x (by simp [hx])⟩
  · intro h x hx
    rcases List.mem_append.1 hx with h1 | h1
    · exact h.1 x h1
    · exact h.2 x h1
theorem Okl.cons {cap : Cap} {a : Al} {b : List Al} : Okl cap (a :: b) ↔ Okc cap a ∧ Okl cap b := by
  unfold Okl; simp
theorem Okl.perm {cap : Cap} {a b : List Al} (h : a.Perm b) (hb : Okl cap b) : Okl cap a := fun x hx => hb x (h.subset hx)
/-! ### Exchanging two stretches -/
theorem swK (n : Nat) (v) : K68_0 (n + 1) v = B68_0_1 (K68_0 n) v := rfl
theorem swp_loop (cap : Cap) : ∀ (x y p q s : List Al) (A B N I f : Nat), x.length = y.length → p.length = A + I → p.length + x.length + q.length = B + I → I + x.length = N → (p ++ (x ++ (q ++ (y ++ s)))).length < 2305843009213693952 → x.length < f →
    K68_0 f (((A : Int), ((B : Int), ((N : Int), (I : Int)))), SS cap (p ++ (x ++ (q ++ (y ++ s))))) = some (SS cap (p ++ (y ++ (q ++ (x ++ s))))) := by
  intro x
  induction x with
  | nil =>
    intro y p q s A B N I f hxy hp hq hN hs hf
    obtain ⟨f, rfl⟩ : ∃ g, f = g + 1 := ⟨f - 1, by simp at hf; omega⟩
    obtain rfl : y = [] := List.eq_nil_of_length_eq_zero (by simp at hxy; omega)
    refine (swK _ _).trans ?_
    unfold B68_0_1
    rw [decide_eq_false (by simp only []; simp at hN; omega), cond_false]
  | cons u x ih =>
    intro y p q s A B N I f hxy hp hq hN hs hf
    simp only [List.length_cons] at hxy hq hN hf
    obtain ⟨f, rfl⟩ : ∃ g, f = g + 1 := ⟨f - 1, by omega⟩
    cases y with
    | nil => simp at hxy
    | cons v y =>
      simp only [List.length_cons] at hxy
      have e0 : p ++ ((u :: x) ++ (q ++ ((v :: y) ++ s))) = p ++ u :: ((x ++ q) ++ v :: (y ++ s)) := by simp
      have e1 : p ++ v :: ((x ++ q) ++ u :: (y ++ s)) = (p ++ [v]) ++ (x ++ ((q ++ [u]) ++ (y ++ s))) := by simp
      have e2 : p ++ ((v :: y) ++ (q ++ ((u :: x) ++ s))) = (p ++ [v]) ++ (y ++ ((q ++ [u]) ++ (x ++ s))) := by simp
      rw [e0] at hs ⊢
      rw [e2]
      have l0 : (x ++ q).length = x.length + q.length := List.length_append
      have len : (p ++ u :: ((x ++ q) ++ v :: (y ++ s))).length = p.length + 1 + (x ++ q).length + 1 + (y ++ s).length := by simp; omega
      have len2 : (p ++ v :: ((x ++ q) ++ v :: (y ++ s))).length = p.length + 1 + (x ++ q).length + 1 + (y ++ s).length := by simp; omega
      rw [len] at hs
      have a1 : IntKind.wrap .i64 ((A : Int) + (I : Int)) = ((p.length : Nat) : Int) := by rw [w64 (by omega)]; omega
      have a2 : IntKind.wrap .i64 ((B : Int) + (I : Int)) = ((p.length + 1 + (x ++ q).length : Nat) : Int) := by rw [w64 (by omega)]; omega
      have a3 : IntKind.wrap .i64 ((I : Int) + 1) = ((I + 1 : Nat) : Int) := by rw [w64 (by omega)]; omega
      refine (swK _ _).trans ?_
      unfold B68_0_1
      rw [decide_eq_true (by simp only []; omega), cond_true]
      simp only [SS, a1, a2, a3, idxE (n := ((p.length : Nat) : Int)) (k := p.length) rfl (show p.length < (p ++ u :: ((x ++ q) ++ v :: (y ++ s))).length by omega), idxE (n := ((p.length + 1 + (x ++ q).length : Nat) : Int)) rfl (show p.length + 1 + (x ++ q).length < (p ++ u :: ((x ++ q) ++ v :: (y ++ s))).length by omega), bndS, at1, at2, set1, idxE (n := ((p.length + 1 + (x ++ q).length : Nat) : Int)) rfl (show p.length + 1 + (x ++ q).length < (p ++ v :: ((x ++ q) ++ v :: (y ++ s))).length by omega), set2]
      rw [e1]
      exact ih y (p ++ [v]) (q ++ [u]) s A B N (I + 1) f (by omega) (by simp; omega) (by simp; omega) (by omega) (by simp at hs ⊢; omega) (by omega)
theorem swp (cap : Cap) (x y p q s : List Al) (A B N : Int) (hA : A = (p.length : Int)) (hB : B = ((p.length + x.length + q.length : Nat) : Int)) (hN : N = (x.length : Int)) (h : x.length = y.length) (h2 : (p ++ (x ++ (q ++ (y ++ s)))).length < 2305843009213693952) (h3 : x.length < 900) :
    F68_0 ((A, (B, N)), TT cap (p ++ (x ++ (q ++ (y ++ s))))) = some (SS cap (p ++ (y ++ (q ++ (x ++ s))))) := by
  subst hA hB hN
  exact swp_loop cap x y p q s p.length (p.length + x.length + q.length) x.length 0 1000 h (by omega) (by omega) (by omega) h2 (by omega)
/-! ### Rotation -/
theorem roK (n : Nat) (v) : K64_0 (n + 1) v = B64_0_2 (K64_0 n) v := rfl
theorem rot_loop (cap : Cap) : ∀ (n : Nat) (x y p s : List Al) (M f : Nat), x.length + y.length ≤ n → x ≠ [] → y ≠ [] → p.length + x.length = M → (p ++ (x ++ (y ++ s))).length < 900 → n < f →
    K64_0 f (((M : Int), ((x.length : Int), (y.length : Int))), SS cap (p ++ (x ++ (y ++ s)))) = some (SS cap (p ++ (y ++ (x ++ s)))) := by
  intro n
  induction n with
  | zero =>
    intro x y p s M f h hx hy
    exact absurd (List.eq_nil_of_length_eq_zero (by omega)) hx
  | succ n ih =>
    intro x y p s M f h hx hy hM hs hf
    obtain ⟨f, rfl⟩ : ∃ g, f = g + 1 := ⟨f - 1, by omega⟩
    have hx1 : 0 < x.length := by cases x; exact absurd rfl hx; simp
    have hy1 : 0 < y.length := by cases y; exact absurd rfl hy; simp
    have ll : (p ++ (x ++ (y ++ s))).length = p.length + (x.length + (y.length + s.length)) := by simp
    rw [ll] at hs
    have a1 : IntKind.wrap .i64 ((M : Int) - (x.length : Int)) = ((p.length : Nat) : Int) := by rw [w64 (by omega)]; omega
    refine (roK _ _).trans ?_
    unfold B64_0_2
    simp only [SS]
    by_cases c1 : x.length = y.length
    · rw [show ((x.length : Int) != (y.length : Int)) = false by simp [c1], cond_false, a1]
      have e := swp cap x y p [] s ((p.length : Nat) : Int) (M : Int) (x.length : Int) rfl (by simp; omega) rfl c1 (by simp; omega) (by omega)
      simp only [List.nil_append, TT, SS] at e
      rw [e, bndS]
    · rw [show ((x.length : Int) != (y.length : Int)) = true from bne_iff_ne.2 (by omega), cond_true]
      by_cases c2 : x.length > y.length
      · rw [decide_eq_true (by omega), cond_true, a1]
        have hk : x = x.take y.length ++ x.drop y.length := (List.take_append_drop _ _).symm
        have l1 : (x.take y.length).length = y.length := by simp; omega
        have l2 : (x.drop y.length).length = x.length - y.length := by simp
        generalize x.take y.length = x1 at *
        generalize x.drop y.length = x2 at *
        have hlx : x.length = x1.length + x2.length := by rw [hk]; simp
        rw [hk]
        have e := swp cap x1 y p x2 s ((p.length : Nat) : Int) (M : Int) (y.length : Int) rfl (by omega) (by omega) l1 (by simp; omega) (by omega)
        have g1 : p ++ (x1 ++ x2 ++ (y ++ s)) = p ++ (x1 ++ (x2 ++ (y ++ s))) := by simp
        have g2 : p ++ (y ++ (x2 ++ (x1 ++ s))) = (p ++ y) ++ (x2 ++ (x1 ++ s)) := by simp
        have g3 : p ++ (y ++ (x1 ++ x2 ++ s)) = (p ++ y) ++ (x1 ++ (x2 ++ s)) := by simp
        rw [g1, g3]
        simp only [TT, SS] at e
        rw [e, bndS, g2]
        have i1 : IntKind.wrap .i64 (((x1 ++ x2).length : Int) - (y.length : Int)) = (x2.length : Int) := by simp only [List.length_append]; rw [w64 (by omega)]; omega
        rw [i1]
        have := ih x2 x1 (p ++ y) s M f (by omega) (by intro h0; rw [h0] at l2; simp at l2; omega) (by intro h0; rw [h0] at l1; simp at l1; omega) (by simp; omega) (by simp; omega) (by omega)
        rw [l1] at this
        exact this
      · rw [decide_eq_false (by omega), cond_false, a1]
        have hk : y = y.take (y.length - x.length) ++ y.drop (y.length - x.length) := (List.take_append_drop _ _).symm
        have l1 : (y.take (y.length - x.length)).length = y.length - x.length := by simp
        have l2 : (y.drop (y.length - x.length)).length = x.length := by simp; omega
        generalize y.take (y.length - x.length) = y1 at *
        generalize y.drop (y.length - x.length) = y2 at *
        have hly : y.length = y1.length + y2.length := by rw [hk]; simp
        rw [hk]
        have a2 : IntKind.wrap .i64 (IntKind.wrap .i64 ((M : Int) + ((y1 ++ y2).length : Int)) - (x.length : Int)) = ((p.length + x.length + y1.length : Nat) : Int) := by simp only [List.length_append]; rw [w64 (show -9223372036854775808 ≤ (M : Int) + ((y1.length + y2.length : Nat) : Int) ∧ (M : Int) + ((y1.length + y2.length : Nat) : Int) ≤ 9223372036854775807 by omega), w64 (by omega)]; omega
        rw [a2]
        have e := swp cap x y2 p y1 s ((p.length : Nat) : Int) ((p.length + x.length + y1.length : Nat) : Int) (x.length : Int) rfl rfl rfl l2.symm (by simp; omega) (by omega)
        have g1 : p ++ (x ++ (y1 ++ y2 ++ s)) = p ++ (x ++ (y1 ++ (y2 ++ s))) := by simp
        have g3 : p ++ (y1 ++ y2 ++ (x ++ s)) = p ++ (y1 ++ (y2 ++ (x ++ s))) := by simp
        rw [g1, g3]
        simp only [TT, SS] at e
        rw [e, bndS]
        have i1 : IntKind.wrap .i64 (((y1 ++ y2).length : Int) - (x.length : Int)) = (y1.length : Int) := by simp only [List.length_append]; rw [w64 (by omega)]; omega
        rw [i1]
        have := ih y2 y1 p (x ++ s) M f (by omega) (by intro h0; rw [h0] at l2; simp at l2; omega) (by intro h0; rw [h0] at l1; simp at l1; omega) (by omega) (by simp; omega) (by omega)
        rw [l2] at this
        exact this
theorem rot (cap : Cap) (x y p s : List Al) (A M B : Int) (hA : A = (p.length : Int)) (hM : M = ((p.length + x.length : Nat) : Int)) (hB : B = ((p.length + x.length + y.length : Nat) : Int)) (hx : x ≠ []) (hy : y ≠ []) (h : (p ++ (x ++ (y ++ s))).length < 900) :
    F64_0 ((A, (M, B)), TT cap (p ++ (x ++ (y ++ s)))) = some (SS cap (p ++ (y ++ (x ++ s)))) := by
  subst hA hM hB
  have ll : (p ++ (x ++ (y ++ s))).length = p.length + (x.length + (y.length + s.length)) := by simp
  have E : ∀ fu, 900 < fu → E64_0 (K64_0 fu) (((p.length : Int), (((p.length + x.length : Nat) : Int), ((p.length + x.length + y.length : Nat) : Int))), TT cap (p ++ (x ++ (y ++ s)))) = some (SS cap (p ++ (y ++ (x ++ s)))) := by
    intro fu hfu
    unfold E64_0
    simp only [TT]
    rw [w64 (by omega), w64 (by omega), show ((p.length + x.length : Nat) : Int) - (p.length : Int) = (x.length : Int) by omega, show ((p.length + x.length + y.length : Nat) : Int) - ((p.length + x.length : Nat) : Int) = (y.length : Int) by omega]
    exact rot_loop cap (x.length + y.length) x y p s (p.length + x.length) fu (Nat.le_refl _) hx hy rfl h (by omega)
  exact E 1000 (by decide)
/-! ### Insertion -/
theorem at3 {α : Type} (p : List α) (u v : α) (s : List α) : (p ++ u :: v :: s)[p.length + 1]? = some v := by
  exact at2 p u [] v s
theorem set3 {α : Type} (p : List α) (u v w : α) (s : List α) : (p ++ u :: v :: s).set (p.length + 1) w = p ++ u :: w :: s := by
  exact set2 p u [] v w s
theorem inK1 (n : Nat) (v) : (K59_0 (n + 1)).1 v = B59_0_1 (K59_0 n) v := rfl
theorem inK2 (n : Nat) (v) : (K59_0 (n + 1)).2 v = B59_0_4 (K59_0 n) v := rfl
theorem ins_inner (cap : Cap) (A B I : Nat) (p t : List Al) (hA : A = p.length) (hI : I < 900) : ∀ (n : Nat) (z1 : List Al) (w : Al) (z2 : List Al) (J f : Nat), z1.length = n → J = p.length + z1.length → (p ++ (z1 ++ w :: (z2 ++ t))).length < 900 → n + 1 < f → Srt cap (z1 ++ z2) → (∀ y ∈ z2, le cap w y) → Okl cap (z1 ++ w :: z2) →
    ∃ f' z, f ≤ f' + n + 1 ∧ z.Perm (z1 ++ w :: z2) ∧ Srt cap z ∧ (K59_0 f).2 (((A : Int), ((B : Int), ((I : Int), (J : Int)))), SS cap (p ++ (z1 ++ w :: (z2 ++ t)))) = (K59_0 f').1 (((A : Int), ((B : Int), ((I + 1 : Nat) : Int))), SS cap (p ++ (z ++ t))) := by
  subst hA
  intro n
  have i1 : IntKind.wrap .i64 ((I : Int) + 1) = ((I + 1 : Nat) : Int) := by rw [w64 (by omega)]; omega
  induction n with
  | zero =>
    intro z1 w z2 J f hn hJ hs hf hS hw hO
    obtain ⟨f, rfl⟩ : ∃ g, f = g + 1 := ⟨f - 1, by omega⟩
    obtain rfl := List.eq_nil_of_length_eq_zero hn
    refine ⟨f, w :: z2, by omega, List.Perm.refl _, List.pairwise_cons.2 ⟨hw, hS⟩, ?_⟩
    refine (inK2 _ _).trans ?_
    unfold B59_0_4
    rw [decide_eq_false (by simp only []; simp at hJ; omega), cond_false]
    simp only [SS, i1]
    rfl
  | succ n ih =>
    intro z1 w z2 J f hn hJ hs hf hS hw hO
    obtain ⟨f, rfl⟩ : ∃ g, f = g + 1 := ⟨f - 1, by omega⟩
    obtain ⟨z0, y, rfl⟩ : ∃ z0 y, z1 = z0 ++ [y] := by
      have hne : z1 ≠ [] := by intro h; rw [h] at hn; simp at hn
      exact ⟨z1.dropLast, z1.getLast hne, (List.dropLast_concat_getLast hne).symm⟩
    have h0 : z0.length = n := by simp at hn; omega
    have e0 : p ++ ((z0 ++ [y]) ++ w :: (z2 ++ t)) = (p ++ z0) ++ y :: w :: (z2 ++ t) := by simp
    have e1 : (p ++ z0) ++ w :: y :: (z2 ++ t) = p ++ (z0 ++ w :: ((y :: z2) ++ t)) := by simp
    rw [e0] at hs ⊢
    have lp : (p ++ z0).length = p.length + z0.length := by simp
    have hJ' : J = (p ++ z0).length + 1 := by simp at hJ; rw [lp]; omega
    have ll : ((p ++ z0) ++ y :: w :: (z2 ++ t)).length = (p ++ z0).length + 2 + (z2 ++ t).length := by simp; omega
    have ll2 : ((p ++ z0) ++ y :: y :: (z2 ++ t)).length = (p ++ z0).length + 2 + (z2 ++ t).length := by simp; omega
    have oy : Okc cap y := hO y (by simp)
    have ow : Okc cap w := hO w (by simp)
    rw [ll] at hs
    have j1 : IntKind.wrap .i64 ((J : Int) - 1) = (((p ++ z0).length : Nat) : Int) := by rw [w64 (by omega)]; omega
    have x1 := idxE (n := (J : Int)) (k := (p ++ z0).length + 1) (len := ((p ++ z0) ++ y :: w :: (z2 ++ t)).length) (by omega) (by omega)
    have x2 := idxE (n := (((p ++ z0).length : Nat) : Int)) (k := (p ++ z0).length) (len := ((p ++ z0) ++ y :: w :: (z2 ++ t)).length) rfl (by omega)
    have x3 := idxE (n := (((p ++ z0).length : Nat) : Int)) (k := (p ++ z0).length) (len := ((p ++ z0) ++ y :: y :: (z2 ++ t)).length) rfl (by omega)
    by_cases hc : cmpv cap w y < 0
    · obtain ⟨f', z, hf', hp, hz, he⟩ := ih z0 w (y :: z2) (p ++ z0).length f h0 (by omega) (by rw [← e1, show ((p ++ z0) ++ w :: y :: (z2 ++ t)).length = (p ++ z0).length + 2 + (z2 ++ t).length by simp; omega]; exact hs) (by omega) (by rwa [List.append_assoc] at hS) (by
        intro v hv
        rcases List.mem_cons.1 hv with rfl | hv
        · exact lt_as cap hc
        · exact hw v hv) (by
        intro v hv
        apply hO v
        simp only [List.mem_append, List.mem_cons, List.not_mem_nil, or_false] at hv ⊢
        rcases hv with h | h | h | h
        · exact .inl (.inl h)
        · exact .inr (.inl h)
        · exact .inl (.inr h)
        · exact .inr (.inr h))
      refine ⟨f', z, by omega, hp.trans ?_, hz, ?_⟩
      · rw [List.append_assoc]
        exact List.Perm.append_left z0 (List.Perm.swap y w z2)
      · refine (inK2 _ _).trans ?_
        unfold B59_0_4
        rw [decide_eq_true (by simp only []; omega), cond_true]
        simp only [SS, j1, x1, x2, bndS, at1, at3, cmp_ok cap ow oy, decide_eq_true hc, cond_true, set3, x3, set1]
        rw [e1]
        exact he
    · refine ⟨f, (z0 ++ [y]) ++ w :: z2, by omega, List.Perm.refl _, ?_, ?_⟩
      · have hS' := srt_app.1 hS
        have hy : ∀ v ∈ z0 ++ [y], le cap v w := by
          intro v hv
          rcases List.mem_append.1 hv with h | h
          · exact le_tr' ((srt_app.1 hS'.1).2.2 v h y (by simp)) hc
          · simp at h; subst h; exact hc
        refine srt_app.2 ⟨hS'.1, List.pairwise_cons.2 ⟨hw, hS'.2.1⟩, ?_⟩
        intro a ha b hb
        rcases List.mem_cons.1 hb with rfl | hb
        · exact hy a ha
        · exact hS'.2.2 a ha b hb
      · refine (inK2 _ _).trans ?_
        unfold B59_0_4
        rw [decide_eq_true (by simp only []; omega), cond_true]
        simp only [SS, j1, x1, x2, bndS, at1, at3, cmp_ok cap ow oy, decide_eq_false hc, cond_false, i1]
        have e3 : p ++ (((z0 ++ [y]) ++ w :: z2) ++ t) = (p ++ z0) ++ y :: w :: (z2 ++ t) := by simp
        rw [e3]
theorem ins_outer (cap : Cap) (p s : List Al) (B M : Nat) : ∀ (x z : List Al) (I f : Nat), I = p.length + z.length → B = I + x.length → z ≠ [] → (p ++ (z ++ (x ++ s))).length < 800 → z.length + x.length ≤ M → x.length * (M + 2) < f → Srt cap z → Okl cap z → Okl cap x →
    ∃ z', z'.Perm (z ++ x) ∧ Srt cap z' ∧ (K59_0 f).1 (((p.length : Int), ((B : Int), (I : Int))), SS cap (p ++ (z ++ (x ++ s)))) = some (SS cap (p ++ (z' ++ s))) := by
  intro x
  induction x with
  | nil =>
    intro z I f hI hB hz hs hM hf hS hO1 hO2
    obtain ⟨f, rfl⟩ : ∃ g, f = g + 1 := ⟨f - 1, by omega⟩
    refine ⟨z, by simp, hS, ?_⟩
    refine (inK1 _ _).trans ?_
    unfold B59_0_1
    rw [decide_eq_false (by simp only []; simp at hB; omega), cond_false]
    rfl
  | cons w x ih =>
    intro z I f hI hB hz hs hM hf hS hO1 hO2
    simp only [List.length_cons] at hB hM hf
    rw [Nat.succ_mul] at hf
    obtain ⟨f, rfl⟩ : ∃ g, f = g + 1 := ⟨f - 1, by omega⟩
    have ll : (p ++ (z ++ ((w :: x) ++ s))).length = p.length + z.length + 1 + x.length + s.length := by simp; omega
    rw [ll] at hs
    have hO2' := Okl.cons.1 hO2
    obtain ⟨f', z', hf', hp, hz', he⟩ := ins_inner cap p.length B I p (x ++ s) rfl (by omega) z.length z w [] I f rfl (by omega) (by simp; omega) (by omega) (by rw [List.append_nil]; exact hS) (fun y hy => by cases hy) (Okl.app.2 ⟨hO1, Okl.cons.2 ⟨hO2'.1, fun y hy => by cases hy⟩⟩)
    have hlen : z'.length = z.length + 1 := by rw [hp.length_eq]; simp
    obtain ⟨z'', hp2, hz2, he2⟩ := ih z' (I + 1) f' (by omega) (by omega) (by intro h; rw [h] at hlen; simp at hlen) (by simp; omega) (by omega) (by omega) hz' (Okl.perm hp (Okl.app.2 ⟨hO1, Okl.cons.2 ⟨hO2'.1, fun y hy => by cases hy⟩⟩)) hO2'.2
    refine ⟨z'', hp2.trans ?_, hz2, ?_⟩
    · have := List.Perm.append_right x hp
      rw [List.append_assoc] at this
      exact this
    · refine (inK1 _ _).trans ?_
      unfold B59_0_1
      rw [decide_eq_true (by simp only []; omega), cond_true]
      exact he.trans he2
theorem insS (cap : Cap) (p x s : List Al) (A B : Int) (hA : A = (p.length : Int)) (hB : B = ((p.length + x.length : Nat) : Int)) (h20 : x.length ≤ 20) (hs : (p ++ (x ++ s)).length < 800) (hO : Okl cap x) :
    ∃ z, z.Perm x ∧ Srt cap z ∧ F59_0 ((A, B), TT cap (p ++ (x ++ s))) = some (SS cap (p ++ (z ++ s))) := by
  subst hA hB
  have ll : (p ++ (x ++ s)).length = p.length + x.length + s.length := by simp; omega
  rw [ll] at hs
  have E : ∀ fu, 900 < fu → ∃ z, z.Perm x ∧ Srt cap z ∧ E59_0 (K59_0 fu) (((p.length : Int), ((p.length + x.length : Nat) : Int)), TT cap (p ++ (x ++ s))) = some (SS cap (p ++ (z ++ s))) := by
    intro fu hfu
    have w1 : IntKind.wrap .i64 ((p.length : Int) + 1) = ((p.length + 1 : Nat) : Int) := by rw [w64 (by omega)]; omega
    cases x with
    | nil =>
      obtain ⟨fu, rfl⟩ : ∃ g, fu = g + 1 := ⟨fu - 1, by omega⟩
      refine ⟨[], List.Perm.refl _, List.Pairwise.nil, ?_⟩
      unfold E59_0
      simp only [TT, w1]
      refine (inK1 _ _).trans ?_
      unfold B59_0_1
      rw [decide_eq_false (by simp only []; simp; omega), cond_false]
    | cons w x =>
      simp only [List.length_cons] at hs h20
      have hO' := Okl.cons.1 hO
      obtain ⟨z, h1, h2, h3⟩ := ins_outer cap p s (p.length + (x.length + 1)) 20 x [w] (p.length + 1) fu (by simp) (by omega) (by simp) (by simp; omega) (by simp; omega) (by omega) (List.pairwise_singleton _ _) (Okl.cons.2 ⟨hO'.1, fun y hy => by cases hy⟩) hO'.2
      refine ⟨z, h1, h2, ?_⟩
      unfold E59_0
      simp only [TT, w1]
      exact h3
  exact E 1000 (by decide)
/-! ### Looking for a place -/
structure Bd (P : Nat → Prop) (lo hi r : Nat) : Prop where
  l : lo ≤ r
  h : r ≤ hi
  low : ∀ k, lo ≤ k → k < r → P k
  up : ∀ k, r ≤ k → k < hi → ¬ P k
theorem le_rf (cap : Cap) (x : Al) : le cap x x := fun h => lt_as cap h h
theorem gD {l : List Al} {k : Nat} (h : k < l.length) : l[k]? = some (l.getD k dz) := by simp [List.getD, List.getElem?_eq_getElem h]
theorem gD_mem {l : List Al} {k : Nat} (h : k < l.length) : l.getD k dz ∈ l := by simp [List.getD, List.getElem?_eq_getElem h]
theorem srt_idx {cap : Cap} {l : List Al} (h : Srt cap l) {i j : Nat} (hij : i ≤ j) (hj : j < l.length) : le cap (l.getD i dz) (l.getD j dz) := by
  rcases Nat.lt_or_ge i j with c | c
  · have := (List.pairwise_iff_getElem.1 h) i j (by omega) hj c
    simpa [List.getD, List.getElem?_eq_getElem hj, List.getElem?_eq_getElem (show i < l.length by omega)] using this
  · obtain rfl : i = j := by omega
    exact le_rf cap _
theorem mem_take_idx {l : List Al} {n : Nat} {v : Al} (h : v ∈ l.take n) : ∃ i, i < n ∧ i < l.length ∧ v = l.getD i dz := by
  obtain ⟨i, hi, rfl⟩ := List.mem_iff_getElem.1 h
  simp at hi
  exact ⟨i, by omega, by omega, by simp [List.getD, List.getElem?_eq_getElem (show i < l.length by omega)]⟩
theorem mem_drop_idx {l : List Al} {n : Nat} {v : Al} (h : v ∈ l.drop n) : ∃ i, n ≤ i ∧ i < l.length ∧ v = l.getD i dz := by
  obtain ⟨i, hi, rfl⟩ := List.mem_iff_getElem.1 h
  simp at hi
  exact ⟨n + i, by omega, by omega, by simp [List.getD, List.getElem?_eq_getElem (show n + i < l.length by omega)]⟩
theorem gD_app (p : List Al) {x s : List Al} {k : Nat} (h : k < x.length) : (p ++ (x ++ s)).getD (p.length + k) dz = x.getD k dz := by
  simp only [List.getD]
  rw [List.getElem?_append_right (by omega), show p.length + k - p.length = k by omega, List.getElem?_append_left h]
theorem syK1 (Rc) (n : Nat) (v) : (K60_0 Rc (n + 1)).1 v = B60_0_3 Rc (K60_0 Rc n) v := rfl
theorem syK2 (Rc) (n : Nat) (v) : (K60_0 Rc (n + 1)).2.1 v = B60_0_9 Rc (K60_0 Rc n) v := rfl
theorem syK3 (Rc) (n : Nat) (v) : (K60_0 Rc (n + 1)).2.2.1 v = B60_0_15 Rc (K60_0 Rc n) v := rfl
theorem syK4 (Rc) (n : Nat) (v) : (K60_0 Rc (n + 1)).2.2.2.1 v = B60_0_21 Rc (K60_0 Rc n) v := rfl
theorem syK5 (Rc) (n : Nat) (v) : (K60_0 Rc (n + 1)).2.2.2.2 v = B60_0_33 Rc (K60_0 Rc n) v := rfl
theorem srch1 (cap : Cap) (Rc) (d : List Al) (a lo hi : Nat) (hd : d.length < 900) (hO : Okl cap d) (ha : a < d.length) (hh : hi ≤ d.length) (mono : ∀ k l, lo ≤ k → k ≤ l → l < hi → cmpv cap (d.getD l dz) (d.getD a dz) < 0 → cmpv cap (d.getD k dz) (d.getD a dz) < 0) :
    ∀ (n i j f : Nat), j - i ≤ n → lo ≤ i → i ≤ j → j ≤ hi → n < f → (∀ k, lo ≤ k → k < i → cmpv cap (d.getD k dz) (d.getD a dz) < 0) → (∀ k, j ≤ k → k < hi → ¬ cmpv cap (d.getD k dz) (d.getD a dz) < 0) →
    ∃ f' r, f ≤ f' + n + 1 ∧ Bd (fun k => cmpv cap (d.getD k dz) (d.getD a dz) < 0) lo hi r ∧ (K60_0 Rc f).1 (((a : Int), ((i : Int), (j : Int))), SS cap d) = (K60_0 Rc f').2.1 (((r : Int), (a : Int)), SS cap d) := by
  intro n
  induction n with
  | zero =>
    intro i j f hn h1 h2 h3 hf hl hu
    obtain ⟨f, rfl⟩ : ∃ g, f = g + 1 := ⟨f - 1, by omega⟩
    obtain rfl : i = j := by omega
    refine ⟨f, i, by omega, ⟨h1, h3, hl, hu⟩, ?_⟩
    refine (syK1 _ _ _).trans ?_
    unfold B60_0_3
    rw [decide_eq_false (by simp only []; omega), cond_false]
  | succ n ih =>
    intro i j f hn h1 h2 h3 hf hl hu
    obtain ⟨f, rfl⟩ : ∃ g, f = g + 1 := ⟨f - 1, by omega⟩
    by_cases hij : i = j
    · subst hij
      refine ⟨f, i, by omega, ⟨h1, h3, hl, hu⟩, ?_⟩
      refine (syK1 _ _ _).trans ?_
      unfold B60_0_3
      rw [decide_eq_false (by simp only []; omega), cond_false]
    · have hm := midE (i := i) (j := j) (by omega)
      obtain ⟨h, hh'⟩ : ∃ h, h = (i + j) / 2 := ⟨_, rfl⟩
      rw [← hh'] at hm
      have hb : i ≤ h ∧ h < j := by omega
      have o1 := hO _ (gD_mem (l := d) (k := h) (by omega))
      have o2 := hO _ (gD_mem (l := d) (k := a) ha)
      have step : B60_0_3 Rc (K60_0 Rc f) (((a : Int), ((i : Int), (j : Int))), SS cap d) = bif decide (cmpv cap (d.getD h dz) (d.getD a dz) < 0) then (K60_0 Rc f).1 (((a : Int), (((h + 1 : Nat) : Int), (j : Int))), SS cap d) else (K60_0 Rc f).1 (((a : Int), ((i : Int), (h : Int))), SS cap d) := by
        unfold B60_0_3
        rw [decide_eq_true (by simp only []; omega), cond_true]
        simp only [SS, hm, idxE (n := (h : Int)) (k := h) (len := d.length) rfl (by omega), idxE (n := (a : Int)) (k := a) (len := d.length) rfl ha, bndS, gD (l := d) (k := h) (by omega), gD (l := d) (k := a) ha, cmp_ok cap o1 o2]
        rw [w64 (by omega), show (h : Int) + 1 = ((h + 1 : Nat) : Int) by omega]
      by_cases hc : cmpv cap (d.getD h dz) (d.getD a dz) < 0
      · obtain ⟨f', r, hf', hB, he⟩ := ih (h + 1) j f (by omega) (by omega) (by omega) h3 (by omega) (fun k a1 a2 => mono k h a1 (by omega) (by omega) hc) hu
        refine ⟨f', r, by omega, hB, (syK1 _ _ _).trans (step.trans ?_)⟩
        rw [decide_eq_true hc, cond_true]; exact he
      · obtain ⟨f', r, hf', hB, he⟩ := ih i h f (by omega) h1 hb.1 (by omega) (by omega) hl (fun k a1 a2 hk => hc (mono h k (by omega) a1 a2 hk))
        refine ⟨f', r, by omega, hB, (syK1 _ _ _).trans (step.trans ?_)⟩
        rw [decide_eq_false hc, cond_false]; exact he
theorem srch2 (cap : Cap) (Rc) (d : List Al) (a lo hi : Nat) (hd : d.length < 900) (hO : Okl cap d) (ha : a < d.length) (hh : hi ≤ d.length) (mono : ∀ k l, lo ≤ k → k ≤ l → l < hi → ¬ cmpv cap (d.getD a dz) (d.getD l dz) < 0 → ¬ cmpv cap (d.getD a dz) (d.getD k dz) < 0) :
    ∀ (n i j f : Nat), j - i ≤ n → lo ≤ i → i ≤ j → j ≤ hi → n < f → (∀ k, lo ≤ k → k < i → ¬ cmpv cap (d.getD a dz) (d.getD k dz) < 0) → (∀ k, j ≤ k → k < hi → ¬ ¬ cmpv cap (d.getD a dz) (d.getD k dz) < 0) →
    ∃ f' r, f ≤ f' + n + 1 ∧ Bd (fun k => ¬ cmpv cap (d.getD a dz) (d.getD k dz) < 0) lo hi r ∧ (K60_0 Rc f).2.2.1 (((a : Int), ((i : Int), (j : Int))), SS cap d) = (K60_0 Rc f').2.2.2.1 (((r : Int), (a : Int)), SS cap d) := by
  intro n
  induction n with
  | zero =>
    intro i j f hn h1 h2 h3 hf hl hu
    obtain ⟨f, rfl⟩ : ∃ g, f = g + 1 := ⟨f - 1, by omega⟩
    obtain rfl : i = j := by omega
    refine ⟨f, i, by omega, ⟨h1, h3, hl, hu⟩, ?_⟩
    refine (syK3 _ _ _).trans ?_
    unfold B60_0_15
    rw [decide_eq_false (by simp only []; omega), cond_false]
  | succ n ih =>
    intro i j f hn h1 h2 h3 hf hl hu
    obtain ⟨f, rfl⟩ : ∃ g, f = g + 1 := ⟨f - 1, by omega⟩
    by_cases hij : i = j
    · subst hij
      refine ⟨f, i, by omega, ⟨h1, h3, hl, hu⟩, ?_⟩
      refine (syK3 _ _ _).trans ?_
      unfold B60_0_15
      rw [decide_eq_false (by simp only []; omega), cond_false]
    · have hm := midE (i := i) (j := j) (by omega)
      obtain ⟨h, hh'⟩ : ∃ h, h = (i + j) / 2 := ⟨_, rfl⟩
      rw [← hh'] at hm
      have hb : i ≤ h ∧ h < j := by omega
      have o1 := hO _ (gD_mem (l := d) (k := h) (by omega))
      have o2 := hO _ (gD_mem (l := d) (k := a) ha)
      have step : B60_0_15 Rc (K60_0 Rc f) (((a : Int), ((i : Int), (j : Int))), SS cap d) = bif !(decide (cmpv cap (d.getD a dz) (d.getD h dz) < 0)) then (K60_0 Rc f).2.2.1 (((a : Int), (((h + 1 : Nat) : Int), (j : Int))), SS cap d) else (K60_0 Rc f).2.2.1 (((a : Int), ((i : Int), (h : Int))), SS cap d) := by
        unfold B60_0_15
        rw [decide_eq_true (by simp only []; omega), cond_true]
        simp only [SS, hm, idxE (n := (h : Int)) (k := h) (len := d.length) rfl (by omega), idxE (n := (a : Int)) (k := a) (len := d.length) rfl ha, bndS, gD (l := d) (k := h) (by omega), gD (l := d) (k := a) ha, cmp_ok cap o2 o1]
        rw [w64 (by omega), show (h : Int) + 1 = ((h + 1 : Nat) : Int) by omega]
      by_cases hc : cmpv cap (d.getD a dz) (d.getD h dz) < 0
      · obtain ⟨f', r, hf', hB, he⟩ := ih i h f (by omega) h1 hb.1 (by omega) (by omega) hl (fun k a1 a2 hk => (mono h k (by omega) a1 a2 hk) hc)
        refine ⟨f', r, by omega, hB, (syK3 _ _ _).trans (step.trans ?_)⟩
        rw [decide_eq_true hc, Bool.not_true, cond_false]; exact he
      · obtain ⟨f', r, hf', hB, he⟩ := ih (h + 1) j f (by omega) (by omega) (by omega) h3 (by omega) (fun k a1 a2 => mono k h a1 (by omega) (by omega) hc) hu
        refine ⟨f', r, by omega, hB, (syK3 _ _ _).trans (step.trans ?_)⟩
        rw [decide_eq_false hc, Bool.not_false, cond_true]; exact he
theorem srch3 (cap : Cap) (Rc) (d : List Al) (a m b mid n0 pp lo hi : Nat) (hd : d.length < 900) (hO : Okl cap d) (hp : ∀ c, lo ≤ c → c < hi → c ≤ pp ∧ pp - c < d.length ∧ c < d.length) (hpp : pp < 2000) (mono : ∀ k l, lo ≤ k → k ≤ l → l < hi → ¬ cmpv cap (d.getD (pp - l) dz) (d.getD l dz) < 0 → ¬ cmpv cap (d.getD (pp - k) dz) (d.getD k dz) < 0) :
    ∀ (n i j f : Nat), j - i ≤ n → lo ≤ i → i ≤ j → j ≤ hi → hi < 2000 → n < f → (∀ k, lo ≤ k → k < i → ¬ cmpv cap (d.getD (pp - k) dz) (d.getD k dz) < 0) → (∀ k, j ≤ k → k < hi → ¬ ¬ cmpv cap (d.getD (pp - k) dz) (d.getD k dz) < 0) →
    ∃ f' r, f ≤ f' + n ∧ 0 < f' ∧ Bd (fun k => ¬ cmpv cap (d.getD (pp - k) dz) (d.getD k dz) < 0) lo hi r ∧ (K60_0 Rc f).2.2.2.2 (((a : Int), ((m : Int), ((b : Int), ((mid : Int), ((n0 : Int), ((i : Int), ((j : Int), (pp : Int)))))))), SS cap d) = (K60_0 Rc f').2.2.2.2 (((a : Int), ((m : Int), ((b : Int), ((mid : Int), ((n0 : Int), ((r : Int), ((r : Int), (pp : Int)))))))), SS cap d) := by
  intro n
  induction n with
  | zero =>
    intro i j f hn h1 h2 h3 h4 hf hl hu
    obtain rfl : i = j := by omega
    exact ⟨f, i, by omega, by omega, ⟨h1, h3, hl, hu⟩, rfl⟩
  | succ n ih =>
    intro i j f hn h1 h2 h3 h4 hf hl hu
    by_cases hij : i = j
    · subst hij
      exact ⟨f, i, by omega, by omega, ⟨h1, h3, hl, hu⟩, rfl⟩
    · obtain ⟨f, rfl⟩ : ∃ g, f = g + 1 := ⟨f - 1, by omega⟩
      have hm := midE (i := i) (j := j) (by omega)
      obtain ⟨h, hh'⟩ : ∃ h, h = (i + j) / 2 := ⟨_, rfl⟩
      rw [← hh'] at hm
      have hb : i ≤ h ∧ h < j := by omega
      obtain ⟨q1, q2, q3⟩ := hp h (by omega) (by omega)
      have o1 := hO _ (gD_mem (l := d) (k := pp - h) q2)
      have o2 := hO _ (gD_mem (l := d) (k := h) q3)
      have m2 : IntKind.wrap .i64 ((pp : Int) - (h : Int)) = ((pp - h : Nat) : Int) := by rw [w64 (by omega)]; omega
      have step : B60_0_33 Rc (K60_0 Rc f) (((a : Int), ((m : Int), ((b : Int), ((mid : Int), ((n0 : Int), ((i : Int), ((j : Int), (pp : Int)))))))), SS cap d) = bif !(decide (cmpv cap (d.getD (pp - h) dz) (d.getD h dz) < 0)) then (K60_0 Rc f).2.2.2.2 (((a : Int), ((m : Int), ((b : Int), ((mid : Int), ((n0 : Int), (((h + 1 : Nat) : Int), ((j : Int), (pp : Int)))))))), SS cap d) else (K60_0 Rc f).2.2.2.2 (((a : Int), ((m : Int), ((b : Int), ((mid : Int), ((n0 : Int), ((i : Int), ((h : Int), (pp : Int)))))))), SS cap d) := by
        unfold B60_0_33
        rw [decide_eq_true (by simp only []; omega), cond_true]
        simp only [SS, hm, m2, idxE (n := ((pp - h : Nat) : Int)) (k := pp - h) (len := d.length) rfl q2, idxE (n := (h : Int)) (k := h) (len := d.length) rfl q3, bndS, gD (l := d) (k := h) q3, gD (l := d) (k := pp - h) q2, cmp_ok cap o1 o2]
        rw [w64 (by omega), show (h : Int) + 1 = ((h + 1 : Nat) : Int) by omega]
      by_cases hc : cmpv cap (d.getD (pp - h) dz) (d.getD h dz) < 0
      · obtain ⟨f', r, hf', hf0, hB, he⟩ := ih i h f (by omega) h1 hb.1 (by omega) h4 (by omega) hl (fun k a1 a2 hk => (mono h k (by omega) a1 a2 hk) hc)
        refine ⟨f', r, by omega, hf0, hB, (syK5 _ _ _).trans (step.trans ?_)⟩
        rw [decide_eq_true hc, Bool.not_true, cond_false]; exact he
      · obtain ⟨f', r, hf', hf0, hB, he⟩ := ih (h + 1) j f (by omega) (by omega) (by omega) h3 h4 (by omega) (fun k a1 a2 => mono k h a1 (by omega) (by omega) hc) hu
        refine ⟨f', r, by omega, hf0, hB, (syK5 _ _ _).trans (step.trans ?_)⟩
        rw [decide_eq_false hc, Bool.not_false, cond_true]; exact he
theorem shift1 (cap : Cap) (Rc) (u : Al) (t : List Al) : ∀ (y p : List Al) (I f : Nat), I = p.length + 1 + y.length → (p ++ u :: (y ++ t)).length < 900 → y.length < f → (K60_0 Rc f).2.1 (((I : Int), (p.length : Int)), SS cap (p ++ u :: (y ++ t))) = some (SS cap (p ++ (y ++ u :: t))) := by
  intro y
  induction y with
  | nil =>
    intro p I f hI hs hf
    obtain ⟨f, rfl⟩ : ∃ g, f = g + 1 := ⟨f - 1, by omega⟩
    refine (syK2 _ _ _).trans ?_
    unfold B60_0_9
    simp only [List.length_nil, Nat.add_zero] at hI
    simp only []
    have ll : (p ++ u :: ([] ++ t)).length = p.length + 1 + t.length := by simp; omega
    rw [w64 (by omega), decide_eq_false (by omega), cond_false]
    rfl
  | cons v y ih =>
    intro p I f hI hs hf
    simp only [List.length_cons] at hI hf
    obtain ⟨f, rfl⟩ : ∃ g, f = g + 1 := ⟨f - 1, by omega⟩
    have ll : (p ++ u :: v :: (y ++ t)).length = p.length + 2 + (y ++ t).length := by simp; omega
    have ll2 : (p ++ v :: v :: (y ++ t)).length = p.length + 2 + (y ++ t).length := by simp; omega
    have e0 : p ++ u :: ((v :: y) ++ t) = p ++ u :: v :: (y ++ t) := rfl
    rw [e0, ll] at hs
    rw [e0]
    have ly : (y ++ t).length = y.length + t.length := List.length_append
    have j1 : IntKind.wrap .i64 ((p.length : Int) + 1) = ((p.length + 1 : Nat) : Int) := by rw [w64 (by omega)]; omega
    have x1 := idxE (n := ((p.length + 1 : Nat) : Int)) (k := p.length + 1) (len := (p ++ u :: v :: (y ++ t)).length) rfl (by omega)
    have x2 := idxE (n := (p.length : Int)) (k := p.length) (len := (p ++ u :: v :: (y ++ t)).length) rfl (by omega)
    have x3 := idxE (n := ((p.length + 1 : Nat) : Int)) (k := p.length + 1) (len := (p ++ v :: v :: (y ++ t)).length) rfl (by omega)
    refine (syK2 _ _ _).trans ?_
    unfold B60_0_9
    simp only []
    rw [w64 (show -9223372036854775808 ≤ (I : Int) - 1 ∧ (I : Int) - 1 ≤ 9223372036854775807 by omega), decide_eq_true (by omega), cond_true]
    simp only [SS, j1, x1, x2, bndS, at1, at3, set1, x3, set3]
    have e1 : p ++ v :: u :: (y ++ t) = (p ++ [v]) ++ u :: (y ++ t) := by simp
    have e2 : p ++ ((v :: y) ++ u :: t) = (p ++ [v]) ++ (y ++ u :: t) := by simp
    rw [e1, e2]
    have := ih (p ++ [v]) I f (by simp; omega) (by simp at hs ⊢; omega) (by omega)
    rw [show (p ++ [v]).length = p.length + 1 by simp] at this
    exact this
theorem shift2 (cap : Cap) (Rc) (v : Al) (p : List Al) : ∀ (n : Nat) (x t : List Al) (k f : Nat), x.length = n → k = p.length + x.length → (p ++ (x ++ v :: t)).length < 900 → n < f → (K60_0 Rc f).2.2.2.1 (((p.length : Int), (k : Int)), SS cap (p ++ (x ++ v :: t))) = some (SS cap (p ++ v :: (x ++ t))) := by
  intro n
  induction n with
  | zero =>
    intro x t k f hn hk hs hf
    obtain ⟨f, rfl⟩ : ∃ g, f = g + 1 := ⟨f - 1, by omega⟩
    obtain rfl := List.eq_nil_of_length_eq_zero hn
    refine (syK4 _ _ _).trans ?_
    unfold B60_0_21
    rw [decide_eq_false (by simp only []; simp at hk; omega), cond_false]
    rfl
  | succ n ih =>
    intro x t k f hn hk hs hf
    obtain ⟨f, rfl⟩ : ∃ g, f = g + 1 := ⟨f - 1, by omega⟩
    obtain ⟨x0, w, rfl⟩ : ∃ z0 y, x = z0 ++ [y] := by
      have hne : x ≠ [] := by intro h; rw [h] at hn; simp at hn
      exact ⟨x.dropLast, x.getLast hne, (List.dropLast_concat_getLast hne).symm⟩
    have h0 : x0.length = n := by simp at hn; omega
    have e0 : p ++ ((x0 ++ [w]) ++ v :: t) = (p ++ x0) ++ w :: v :: t := by simp
    have e1 : (p ++ x0) ++ v :: w :: t = p ++ (x0 ++ v :: (w :: t)) := by simp
    have e2 : p ++ v :: ((x0 ++ [w]) ++ t) = p ++ v :: (x0 ++ (w :: t)) := by simp
    rw [e0] at hs ⊢
    rw [e2]
    have lp : (p ++ x0).length = p.length + x0.length := by simp
    have hk' : k = (p ++ x0).length + 1 := by simp at hk; rw [lp]; omega
    have ll : ((p ++ x0) ++ w :: v :: t).length = (p ++ x0).length + 2 + t.length := by simp; omega
    have ll2 : ((p ++ x0) ++ w :: w :: t).length = (p ++ x0).length + 2 + t.length := by simp; omega
    rw [ll] at hs
    have j1 : IntKind.wrap .i64 ((k : Int) - 1) = (((p ++ x0).length : Nat) : Int) := by rw [w64 (by omega)]; omega
    have x1 := idxE (n := (k : Int)) (k := (p ++ x0).length + 1) (len := ((p ++ x0) ++ w :: v :: t).length) (by omega) (by omega)
    have x2 := idxE (n := (((p ++ x0).length : Nat) : Int)) (k := (p ++ x0).length) (len := ((p ++ x0) ++ w :: v :: t).length) rfl (by omega)
    have x3 := idxE (n := (((p ++ x0).length : Nat) : Int)) (k := (p ++ x0).length) (len := ((p ++ x0) ++ w :: w :: t).length) rfl (by omega)
    refine (syK4 _ _ _).trans ?_
    unfold B60_0_21
    rw [decide_eq_true (by simp only []; omega), cond_true]
    simp only [SS, j1, x1, x2, bndS, at1, at3, set3, x3, set1]
    rw [e1]
    exact ih x0 (w :: t) (p ++ x0).length f h0 lp (by rw [← e1, show ((p ++ x0) ++ v :: w :: t).length = (p ++ x0).length + 2 + t.length by simp; omega]; exact hs) (by omega)
end Go.Proofs.Ytgjglkogengmbaa.Ev
