/- Chapter 19: controls, read. -/
import Derived.Test.YtggfniipidepdaaMControl
set_option linter.unusedVariables false
set_option linter.unusedSimpArgs false
namespace Go.Proofs.Ytggfniipidepdaa.Ev
open Go

def takeS (all : List Int) (s : RS) : Ct × RS :=
  let a := countS all 0 255 s
  let b := countS all 0 255 a.2
  let c := countS all 0 255 b.2
  let d := countS all 0 254 c.2
  let g := countS all 0 9 d.2
  let x := flagS all g.2
  let y := flagS all x.2
  ((a.1, (b.1, (c.1, (IntKind.wrap .i64 (d.1 - 127), (IntKind.wrap .i64 (g.1 - 1), (x.1, y.1)))))), y.2)
theorem takeS_ok {all : List Int} {s : RS} (hs : SOk all.length s) : SOk all.length (takeS all s).2 := by
  unfold takeS
  exact flagS_ok (flagS_ok (countS_ok (countS_ok (countS_ok (countS_ok (countS_ok hs))))))
theorem take_eq {all : List Int} {s : RS} (hb : Bytes all) (hs : SOk all.length s) : F34_0 (s, all) = some ((takeS all s).1, ((takeS all s).2, all)) := by
  unfold F34_0 takeS
  have h1 := countS_ok (lo := 0) (hi := 255) hs
  have h2 := countS_ok (lo := 0) (hi := 255) h1
  have h3 := countS_ok (lo := 0) (hi := 255) h2
  have h4 := countS_ok (lo := 0) (hi := 254) h3
  have h5 := countS_ok (lo := 0) (hi := 9) h4
  have h6 := flagS_ok h5
  rw [count_eq hb hs, Option.bind_some, count_eq hb h1, Option.bind_some, count_eq hb h2, Option.bind_some, count_eq hb h3, Option.bind_some]
  simp only []
  rw [count_eq hb h4, Option.bind_some]
  simp only []
  rw [flag_eq h5, Option.bind_some, flag_eq h6, Option.bind_some]
theorem good_eq (s : RS) (all : List Int) : F33_0 (s, all) = some (s.2.2.1 == 0, (s, all)) := rfl
/-- What is read first: how many there are. -/
def stP (p : Int × RS) : Int × RS := if p.1 < 0 ∨ p.1 > 16777216 then (p.1, failS 22 p.2.2.1 p.2) else p
theorem stP_bad {p : Int × RS} (h : p.1 < 0 ∨ p.1 > 16777216) : stP p = (p.1, failS 22 p.2.2.1 p.2) := if_pos h
theorem stP_good {p : Int × RS} (h : ¬ (p.1 < 0 ∨ p.1 > 16777216)) : stP p = p := if_neg h
def startS (all : List Int) : Int × RS := stP (numS all (markS all mkC (0, (0, (0, 0)))))
theorem s0_ok {all : List Int} (hl : all.length ≤ 6012) : SOk all.length ((0, (0, (0, 0))) : RS) := by unfold SOk; simp only []; omega
theorem startS_ok {all : List Int} (hl : all.length ≤ 6012) : SOk all.length (startS all).2 := by
  unfold startS stP
  have h := numS_ok (markS_ok (mk := mkC) (s0_ok hl))
  split
  · exact failS_ok h (by unfold SOk at h; omega)
  · exact h
theorem startS_bad {all : List Int} (h : (startS all).1 < 0 ∨ (startS all).1 > 16777216) : (startS all).2.2.2.1 ≠ 0 := by
  unfold startS at h ⊢
  generalize numS all (markS all mkC (0, (0, (0, 0)))) = p at h ⊢
  by_cases h2 : p.1 < 0 ∨ p.1 > 16777216
  · rw [stP_bad h2]; exact failS_err (by decide) _
  · rw [stP_good h2] at h; exact absurd h h2
theorem mkC_bytes : Bytes mkC := by intro x hx; simp [mkC] at hx; omega
theorem newin_eq {v : List Int} (h : v.length ≤ 140737488355328) : F29_0 v = some ((0, (0, (0, 0))), v) := by
  unfold F29_0
  rw [clone_eq h]; rfl
theorem dec_E {v : List Int} (hb : Bytes v) (hl : v.length ≤ 6012) : F13_0 v = K13_0 1000 ((startS v).1, ([], ((startS v).2, v))) := by
  unfold F13_0 E13_0 startS
  have h0 := s0_ok hl
  have h1 := markS_ok (mk := mkC) h0
  have h2 := numS_ok h1
  rw [newin_eq (by omega), Option.bind_some, mark_eq h0 markedC, Option.bind_some]
  rw [show ([67, 72, 83, 67] : List Int) = mkC from rfl, num_eq hb h1, Option.bind_some]
  generalize numS v (markS v mkC (0, (0, (0, 0)))) = p at h2 ⊢
  simp only [refuse_eq (show (22 : Int) ≠ 0 by decide), good_eq, Option.bind_some]
  have hb2 : ((failS 22 p.2.2.1 p.2).2.2.1 == 0) = false := beq_eq_false_iff_ne.2 (failS_err (by decide) _)
  by_cases c1 : p.1 < 0
  · rw [decide_eq_true c1, cond_true, stP_bad (.inl c1), hb2]; rfl
  · rw [decide_eq_false c1, cond_false]
    by_cases c2 : p.1 > 16777216
    · rw [decide_eq_true c2, cond_true, stP_bad (.inr c2), hb2]; rfl
    · rw [decide_eq_false c2, cond_false, stP_good (by omega)]
      by_cases c3 : p.2.2.2.1 = 0
      · simp only [c3, beq_self_eq_true, cond_true]
        have ht : Int.tdiv (v.length : Int) 12 = (v.length : Int) / 12 := tdiv_nn (by omega)
        simp only [ht, wi64 (show -9223372036854775808 ≤ ((v.length : Int) / 12) ∧ ((v.length : Int) / 12) ≤ 9223372036854775807 by omega)]
        refine (chkT ?_ _).trans ?_
        · split <;> omega
        · rfl
      · simp only [beq_eq_false_iff_ne.2 c3, cond_false]; rfl
theorem rdec_E {v : List Int} (hb : Bytes v) (hl : v.length ≤ 6012) : F14_0 v = K14_0 1000 (((startS v).1, 0), ([], (v, (startS v).2))) := by
  unfold F14_0 E14_0 startS
  have h0 := s0_ok hl
  have h1 := markS_ok (mk := mkC) h0
  rw [rmark_eq hb h0 mkC_bytes rmarkC, Option.bind_some, rnumr_eq hb h1, Option.bind_some]
  generalize numS v (markS v mkC (0, (0, (0, 0)))) = p
  simp only [rrefuse_eq (show (22 : Int) ≠ 0 by decide), Option.bind_some]
  by_cases c1 : p.1 < 0
  · rw [decide_eq_true c1, cond_true, stP_bad (.inl c1)]; rfl
  · rw [decide_eq_false c1, cond_false]
    by_cases c2 : p.1 > 16777216
    · rw [decide_eq_true c2, cond_true, stP_bad (.inr c2)]; rfl
    · rw [decide_eq_false c2, cond_false, stP_good (by omega)]; rfl
theorem decK (n : Nat) (v) : K13_0 (n + 1) v = B13_0_9 (K13_0 n) v := rfl
theorem rdecK (n : Nat) (v) : K14_0 (n + 1) v = B14_0_8 (K14_0 n) v := rfl
def finS (L : Int) (s : RS) (out : List Ct) : (Int × Int) × List Ct := if (endS0 L s).2.2.1 ≠ 0 then ((endS0 L s).2.2, []) else ((0, 0), out)
/-- A turn of the loop. -/
theorem dec_step {all : List Int} {s : RS} (hb : Bytes all) (hs : SOk all.length s) (n : Nat) (N : Int) (out : List Ct) (ho : out.length ≤ 100000) :
    K13_0 (n + 1) (N, (out, (s, all))) = if (out.length : Int) < N ∧ s.2.2.1 = 0 then K13_0 n (N, (out ++ [(takeS all s).1], ((takeS all s).2, all))) else some (finS all.length s out) := by
  rw [decK]
  unfold B13_0_9
  simp only [good_eq, end_eq, Option.bind_some, take_eq hb hs]
  have hf : (bif (endS0 (all.length : Int) s).2.2.1 != 0 then some ((endS0 (all.length : Int) s).2.2, ([] : List Ct)) else some ((0, 0), out)) = some (finS all.length s out) := by
    unfold finS
    by_cases h : (endS0 (all.length : Int) s).2.2.1 = 0
    · rw [if_neg (by simp [h])]; simp only [h]; rfl
    · rw [if_pos h]; simp only [bne_iff_ne.2 h, cond_true]
  by_cases c1 : (out.length : Int) < N
  · rw [decide_eq_true c1, cond_true]
    by_cases c2 : s.2.2.1 = 0
    · rw [if_pos ⟨c1, c2⟩]
      simp only [c2, beq_self_eq_true, cond_true]
      exact chkT (by simp; omega) _
    · rw [if_neg (fun h => c2 h.2)]
      simp only [beq_eq_false_iff_ne.2 c2, cond_false]
      exact hf
  · rw [decide_eq_false c1, cond_false, if_neg (fun h => c1 h.1)]
    exact hf
theorem rdec_step {all : List Int} {s : RS} (hb : Bytes all) (hs : SOk all.length s) (n : Nat) (N : Int) (out : List Ct) (ho : out.length ≤ 100000) :
    K14_0 (n + 1) ((N, (out.length : Int)), (out, (all, s))) = if (out.length : Int) < N ∧ s.2.2.1 = 0 then K14_0 n ((N, ((out ++ [(takeS all s).1]).length : Int)), (out ++ [(takeS all s).1], (all, (takeS all s).2))) else some (finS all.length s out) := by
  rw [rdecK]
  unfold B14_0_8
  have h1 := countS_ok (lo := 0) (hi := 255) hs
  have h2 := countS_ok (lo := 0) (hi := 255) h1
  have h3 := countS_ok (lo := 0) (hi := 255) h2
  have h4 := countS_ok (lo := 0) (hi := 254) h3
  have h5 := countS_ok (lo := 0) (hi := 9) h4
  have h6 := flagS_ok h5
  simp only [rend_eq, Option.bind_some, rcountr_eq hb hs, rcountr_eq hb h1, rcountr_eq hb h2, rcountr_eq hb h3, rcountr_eq hb h4, rflagr_eq h5, rflagr_eq h6]
  have hf : (bif (endS0 (all.length : Int) s).2.2.1 != 0 then some ((endS0 (all.length : Int) s).2.2, ([] : List Ct)) else some ((0, 0), out)) = some (finS all.length s out) := by
    unfold finS
    by_cases h : (endS0 (all.length : Int) s).2.2.1 = 0
    · rw [if_neg (by simp [h])]; simp only [h]; rfl
    · rw [if_pos h]; simp only [bne_iff_ne.2 h, cond_true]
  by_cases c1 : (out.length : Int) < N
  · rw [decide_eq_true c1, cond_true]
    by_cases c2 : s.2.2.1 = 0
    · rw [if_pos ⟨c1, c2⟩]
      simp only [c2, beq_self_eq_true, cond_true]
      refine (chkT (by simp; omega) _).trans ?_
      rw [wi64 (by omega)]
      simp only [List.length_append, List.length_cons, List.length_nil]
      rfl
    · rw [if_neg (fun h => c2 h.2)]
      simp only [beq_eq_false_iff_ne.2 c2, cond_false]
      exact hf
  · rw [decide_eq_false c1, cond_false, if_neg (fun h => c1 h.1)]
    exact hf
theorem dec_same {all : List Int} (hb : Bytes all) (N : Int) : ∀ (n : Nat) (out : List Ct) (s : RS), SOk all.length s → out.length + n ≤ 100000 → K13_0 n (N, (out, (s, all))) = K14_0 n ((N, (out.length : Int)), (out, (all, s))) := by
  intro n
  induction n with
  | zero => intro out s _ _; rfl
  | succ n ih =>
    intro out s hs ho
    rw [dec_step hb hs n N out (by omega), rdec_step hb hs n N out (by omega)]
    split
    · exact ih _ _ (takeS_ok hs) (by simp; omega)
    · rfl
/-! ### One control's bytes -/
theorem wd_app (all : List Int) (p a b : Nat) : wdS all p (a + b) = wdS all p a ++ wdS all (p + a) b := by
  unfold wdS
  rw [List.take_add, List.drop_drop]
theorem wd1 {all : List Int} {p : Nat} (h : p + 1 ≤ all.length) : wdS all p 1 = [all.getD p 0] := by
  apply List.ext_getElem?
  intro j
  match j with
  | 0 => rw [wdS_get h 0 (by omega), Nat.add_zero, getD_at (by omega)]; rfl
  | j + 1 => rw [List.getElem?_eq_none (by rw [wdS_len h]; omega), List.getElem?_eq_none (by simp)]
theorem cnt_of {all : List Int} (hb : Bytes all) {p : Nat} (h : p + 2 ≤ all.length) : cnt (leV (wdS all p 2)) = wdS all p 2 := by
  have hw := leV_bound (wdS all p 2) (wdS_bytes hb _ _)
  rw [wdS_len h] at hw
  unfold cnt
  rw [wrap_u64 (by unfold U64; simp at hw; omega)]
  have := leB_leV (wdS all p 2) (wdS_bytes hb _ _)
  rw [wdS_len h] at this
  exact this
theorem flag_of {b : Int} (h0 : 0 ≤ b) (h1 : b ≤ 1) : flagB (b == 1) = [b] := by
  have : b = 0 ∨ b = 1 := by omega
  rcases this with rfl | rfl <;> rfl
theorem getD_b {all : List Int} (hb : Bytes all) {p : Nat} (h : p < all.length) : 0 ≤ all.getD p 0 ∧ all.getD p 0 ≤ 255 := hb _ (getD_mem h)
theorem takeS_in {all : List Int} {s : RS} (hb : Bytes all) (hs : SOk all.length s) (h : (takeS all s).2.2.2.1 = 0) :
    s.2.2.1 = 0 ∧ s.1 + 12 ≤ all.length ∧ RightC (takeS all s).1 ∧ oneS (takeS all s).1 = wdS all s.1.toNat 12 ∧ (takeS all s).2.1 = s.1 + 12 := by
  unfold takeS at h ⊢
  simp only [] at h ⊢
  have k1 := countS_ok (lo := 0) (hi := 255) hs
  have k2 := countS_ok (lo := 0) (hi := 255) k1
  have k3 := countS_ok (lo := 0) (hi := 255) k2
  have k4 := countS_ok (lo := 0) (hi := 254) k3
  have k5 := countS_ok (lo := 0) (hi := 9) k4
  have k6 := flagS_ok k5
  obtain ⟨y1, y2, y3, y4, y5⟩ := flagS_in k6 h
  obtain ⟨x1, x2, x3, x4, x5⟩ := flagS_in k5 y1
  obtain ⟨g1, g2, g3, g4, g5, g6⟩ := countS_in k4 x1
  obtain ⟨d1, d2, d3, d4, d5, d6⟩ := countS_in k3 g1
  obtain ⟨c1, c2, c3, c4, c5, c6⟩ := countS_in k2 d1
  obtain ⟨b1, b2, b3, b4, b5, b6⟩ := countS_in k1 c1
  obtain ⟨a1, a2, a3, a4, a5, a6⟩ := countS_in hs b1
  have hs' := hs
  unfold SOk at hs'
  have e0 : 0 ≤ s.1 := hs'.1
  clear k1 k2 k3 k4 k5 k6 h
  generalize countS all 0 255 s = A at *
  generalize countS all 0 255 A.2 = B at *
  generalize countS all 0 255 B.2 = C at *
  generalize countS all 0 254 C.2 = D at *
  generalize countS all 0 9 D.2 = V at *
  generalize flagS all V.2 = X at *
  generalize flagS all X.2 = Y at *
  have pA : A.2.1 = s.1 + 2 := by rw [a6]
  have pB : B.2.1 = s.1 + 4 := by rw [b6]; simp only []; omega
  have pC : C.2.1 = s.1 + 6 := by rw [c6]; simp only []; omega
  have pD : D.2.1 = s.1 + 8 := by rw [d6]; simp only []; omega
  have pV : V.2.1 = s.1 + 10 := by rw [g6]; simp only []; omega
  have pX : X.2.1 = s.1 + 11 := by rw [x5]; simp only []; omega
  have p0 : s.1.toNat + 12 ≤ all.length := by omega
  rw [show A.2.1.toNat = s.1.toNat + 2 by omega] at b5
  rw [show B.2.1.toNat = s.1.toNat + 4 by omega] at c5
  rw [show C.2.1.toNat = s.1.toNat + 6 by omega] at d5
  rw [show D.2.1.toNat = s.1.toNat + 8 by omega] at g5
  rw [show V.2.1.toNat = s.1.toNat + 10 by omega] at x3 x4
  rw [show X.2.1.toNat = s.1.toNat + 11 by omega] at y3 y4
  have bx := getD_b hb (p := s.1.toNat + 10) (by omega)
  have by_ := getD_b hb (p := s.1.toNat + 11) (by omega)
  have w1 : IntKind.wrap .i64 (D.1 - 127) = D.1 - 127 := wi64 (by omega)
  have w2 : IntKind.wrap .i64 (V.1 - 1) = V.1 - 1 := wi64 (by omega)
  refine ⟨a1, by omega, ?_, ?_, ?_⟩
  · unfold RightC
    simp only [w1, w2]
    omega
  · unfold oneS
    simp only [w1, w2]
    rw [show D.1 - 127 + 127 = D.1 by omega, show V.1 - 1 + 1 = V.1 by omega]
    rw [wi64 (by omega), wi64 (by omega), a5, b5, c5, d5, g5, x4, y4, cnt_of hb (by omega), cnt_of hb (by omega), cnt_of hb (by omega), cnt_of hb (by omega), cnt_of hb (by omega), flag_of bx.1 x3, flag_of by_.1 y3]
    rw [show (12 : Nat) = 2 + (2 + (2 + (2 + (2 + (1 + 1))))) from rfl, wd_app, wd_app, wd_app, wd_app, wd_app, wd_app]
    rw [show s.1.toNat + 2 + 2 = s.1.toNat + 4 by omega, show s.1.toNat + 4 + 2 = s.1.toNat + 6 by omega, show s.1.toNat + 6 + 2 = s.1.toNat + 8 by omega, show s.1.toNat + 8 + 2 = s.1.toNat + 10 by omega, show s.1.toNat + 10 + 1 = s.1.toNat + 11 by omega,
      wd1 (show s.1.toNat + 10 + 1 ≤ all.length by omega), wd1 (show s.1.toNat + 11 + 1 ≤ all.length by omega)]
  · rw [y5]; simp only []; omega
/-! ### All of them -/
theorem dec_res {all : List Int} (hb : Bytes all) (hl : all.length ≤ 6012) (N : Int) (hd : List Int) : ∀ (n : Nat) (out : List Ct) (s : RS), SOk all.length s → 1 ≤ n → out.length + n ≤ 100000 →
    (s.2.2.1 = 0 → (all.length : Int) - s.1 + 24 ≤ 12 * (n : Int) ∧ all.take s.1.toNat = hd ++ out.flatMap oneS ∧ (∀ c ∈ out, RightC c) ∧ ((out.length : Int) ≤ N ∨ out = [])) →
    ∃ r, K13_0 n (N, (out, (s, all))) = some r ∧ ((r.1.1 ≠ 0 ∧ r.2 = [] ∧ 0 ≤ r.1.2 ∧ r.1.2 ≤ all.length) ∨
      (r.1 = (0, 0) ∧ s.2.2.1 = 0 ∧ all = hd ++ r.2.flatMap oneS ∧ (∀ c ∈ r.2, RightC c) ∧ N ≤ r.2.length ∧ ((r.2.length : Int) ≤ N ∨ r.2 = []))) := by
  intro n
  induction n with
  | zero => intro out s _ h; omega
  | succ n ih =>
    intro out s hs _ ho hP
    rw [dec_step hb hs n N out (by omega)]
    by_cases c : (out.length : Int) < N ∧ s.2.2.1 = 0
    · rw [if_pos c]
      obtain ⟨hm, htk, hR, hN⟩ := hP c.2
      have hs' := hs
      unfold SOk at hs'
      have h2 := takeS_ok hs
      obtain ⟨r, h3, h4⟩ := ih (out ++ [(takeS all s).1]) (takeS all s).2 h2 (by omega) (by simp; omega) (by
        intro he
        obtain ⟨q1, q2, q3, q4, q5⟩ := takeS_in hb hs he
        refine ⟨by rw [q5]; omega, ?_, ?_, .inl (by simp; omega)⟩
        · rw [q5, show (s.1 + 12).toNat = s.1.toNat + 12 by omega, List.take_add, htk]
          rw [show List.take 12 (List.drop s.1.toNat all) = wdS all s.1.toNat 12 from rfl, ← q4]
          simp [List.append_assoc]
        · intro x hx
          rcases List.mem_append.1 hx with hx | hx
          · exact hR x hx
          · rw [List.mem_singleton.1 hx]; exact q3)
      refine ⟨r, h3, ?_⟩
      rcases h4 with h4 | ⟨h4, _, h5⟩
      · exact .inl h4
      · exact .inr ⟨h4, c.2, h5⟩
    · rw [if_neg c]
      refine ⟨_, rfl, ?_⟩
      unfold finS
      have h2 := endS_ok hs
      by_cases he : (endS0 (all.length : Int) s).2.2.1 = 0
      · rw [if_neg (by simp [he])]
        have hse : s.2.2.1 = 0 ∧ ¬ s.1 < (all.length : Int) := by
          unfold endS0 at he
          split at he
          · exact absurd he (failS_err (by decide) _)
          · rename_i h3; exact ⟨he, h3⟩
        obtain ⟨hm, htk, hR, hN⟩ := hP hse.1
        refine .inr ⟨rfl, hse.1, ?_, hR, ?_, hN⟩
        · rw [← htk, List.take_of_length_le (by omega)]
        · have := fun h => c ⟨h, hse.1⟩
          simp only []; omega
      · rw [if_pos he]
        refine .inl ⟨he, rfl, ?_⟩
        unfold SOk at h2
        exact ⟨h2.2.2.2.2.1, h2.2.2.2.2.2.1⟩
theorem dec_all {v : List Int} (hb : Bytes v) (hl : v.length ≤ 6012) : ∃ r, F13_0 v = some r ∧ F14_0 v = some r ∧ ((r.1.1 ≠ 0 ∧ r.2 = [] ∧ 0 ≤ r.1.2 ∧ r.1.2 ≤ v.length) ∨
      (r.1 = (0, 0) ∧ v = headC r.2.length ++ r.2.flatMap oneS ∧ (∀ c ∈ r.2, RightC c) ∧ r.2.length ≤ 500)) := by
  have hs := startS_ok hl
  have hnum : (startS v).2.2.2.1 = 0 → (startS v).2.1 = 12 ∧ 0 ≤ (startS v).1 ∧ 12 ≤ v.length ∧ wdS v 0 4 = mkC ∧ (startS v).1 = IntKind.wrap .i64 (leV (wdS v 4 8)) := by
    intro h
    have hge : ¬ ((startS v).1 < 0 ∨ (startS v).1 > 16777216) := fun hh => startS_bad hh h
    have e : startS v = numS v (markS v mkC (0, (0, (0, 0)))) := by
      unfold startS at hge ⊢
      generalize numS v (markS v mkC (0, (0, (0, 0)))) = p at hge ⊢
      by_cases h2 : p.1 < 0 ∨ p.1 > 16777216
      · rw [stP_bad h2] at hge; exact absurd h2 hge
      · exact stP_good h2
    rw [e] at h hge ⊢
    have h1 := markS_ok (mk := mkC) (s0_ok hl)
    obtain ⟨n1, n2, n3, n4⟩ := numS_in h1 h
    obtain ⟨m1, m2, m3, m4⟩ := markS_in (s0_ok hl) n1
    have hge0 : 0 ≤ (numS v (markS v mkC (0, (0, (0, 0))))).1 := by omega
    rw [m4] at n2 n3 n4 hge0
    simp only [] at n2 n3 n4 m2 m3 hge0
    rw [m4]
    simp only []
    rw [n4]
    exact ⟨rfl, hge0, by omega, m3, n3⟩
  obtain ⟨r, h1, h2⟩ := dec_res hb hl (startS v).1 (v.take 12) 1000 [] (startS v).2 hs (by omega) (by simp) (by
    intro h
    obtain ⟨p1, p2, p3, _⟩ := hnum h
    refine ⟨by rw [p1]; omega, by rw [p1]; simp, by simp, .inr rfl⟩)
  refine ⟨r, (dec_E hb hl).trans h1, (rdec_E hb hl).trans ?_, ?_⟩
  · rw [← h1]
    exact (dec_same hb _ 1000 [] _ hs (by simp)).symm
  · rcases h2 with h2 | ⟨h2, h3, h4, h5, h6, h7⟩
    · exact .inl h2
    · obtain ⟨p1, p2, p3, p4, p5⟩ := hnum h3
      have hlen : (r.2.length : Int) = (startS v).1 := by
        rcases h7 with h7 | h7
        · omega
        · rw [h7] at h6 ⊢; simp at h6 ⊢; omega
      have h500 : r.2.length ≤ 500 := by
        have := congrArg List.length h4
        rw [List.length_append, flat_len oneS 12 r.2 (fun x _ => oneS_len x), List.length_take] at this
        omega
      refine .inr ⟨h2, ?_, h5, h500⟩
      have hv := leV_bound (wdS v 4 8) (wdS_bytes hb _ _)
      rw [wdS_len (by omega)] at hv
      have hw : IntKind.wrap .u64 (r.2.length : Int) = leV (wdS v 4 8) := by
        rw [hlen, p5]
        generalize leV (wdS v 4 8) = x at hv
        rw [IntKind.wrap_i64, IntKind.wrap_u64]
        simp at hv
        omega
      have hh : headC r.2.length = v.take 12 := by
        unfold headC
        rw [hw]
        have e8 := leB_leV (wdS v 4 8) (wdS_bytes hb _ _)
        rw [wdS_len (by omega)] at e8
        rw [e8, ← p4, ← wd_app v 0 4 8]
        unfold wdS
        rw [List.drop_zero]
      rw [hh]
      exact h4
theorem dom_bytes {v : List Int} (h : ∀ x ∈ v, (Lit.int .u8 x).wf = true) : Bytes v := by
  intro x hx
  have : IntKind.u8.min ≤ x ∧ x ≤ IntKind.u8.max := by simpa [Lit.wf] using h x hx
  exact this
theorem sameK (n : Nat) (v) : K15_0 (n + 1) v = B15_0_4 (K15_0 n) v := rfl
theorem same_go (l : List Ct) : ∀ (d i n : Nat), d < n → i + d = l.length → l.length ≤ 500 → K15_0 n (l, (l, (i : Int))) = some true := by
  intro d
  induction d with
  | zero =>
    intro i n hn hi hl
    obtain ⟨n, rfl⟩ : ∃ m, n = m + 1 := ⟨n - 1, by omega⟩
    rw [sameK]
    unfold B15_0_4
    rw [decide_eq_false (by simp; omega), cond_false]
  | succ d ih =>
    intro i n hn hi hl
    obtain ⟨n, rfl⟩ : ∃ m, n = m + 1 := ⟨n - 1, by omega⟩
    have hil : i < l.length := by omega
    rw [sameK]
    unfold B15_0_4
    rw [decide_eq_true (show (i : Int) < (l.length : Int) by omega), cond_true]
    simp only [rdx_n hil, Option.bind_some, beq_self_eq_true, Bool.and_true, Bool.not_true, cond_false, wi64 (show -9223372036854775808 ≤ ((i : Int) + 1) ∧ ((i : Int) + 1) ≤ 9223372036854775807 by omega)]
    have := ih (i + 1) n (by omega) (by omega) hl
    rw [show ((i + 1 : Nat) : Int) = (i : Int) + 1 by omega] at this
    exact this
theorem same_eq {l : List Ct} (h : l.length ≤ 500) : F15_0 (l, l) = some true := by
  unfold F15_0 E15_0
  simp only [bne_self_eq_false, cond_false]
  exact same_go l l.length 0 1000 (by omega) (by omega) h
theorem law4_0 (v) (h : Dom4_0 v) : F4_0 v = some true := by
  unfold F4_0
  by_cases hl : (v.length : Int) > 6000
  · rw [decide_eq_true hl]; rfl
  · rw [decide_eq_false hl, cond_false]
    refine (chkT (by simp; omega) _).trans ?_
    obtain ⟨r, h1, h2, h3⟩ := dec_all (dom_bytes h.2) (show v.length ≤ 6012 by omega)
    simp only [List.nil_append, h1, h2, Option.bind_some]
    rw [same_eq (by rcases h3 with ⟨_, h3, _⟩ | ⟨_, _, _, h3⟩ <;> simp_all)]
    simp only [Option.bind_some, cond_true, beq_self_eq_true, awakeC]
/-! ### There and back -/
theorem cnt_bytes (n : Int) : Bytes (cnt n) := leB_bytes 2 _
theorem flagB_bytes (b : Bool) : Bytes (flagB b) := by intro x hx; cases b <;> simp [flagB] at hx <;> omega
theorem Bytes.app {a b : List Int} (ha : Bytes a) (hb : Bytes b) : Bytes (a ++ b) := fun x hx => (List.mem_append.1 hx).elim (ha x) (hb x)
theorem oneS_bytes (c : Ct) : Bytes (oneS c) := (cnt_bytes _).app ((cnt_bytes _).app ((cnt_bytes _).app ((cnt_bytes _).app ((cnt_bytes _).app ((flagB_bytes _).app (flagB_bytes _))))))
theorem headC_bytes (k : Nat) : Bytes (headC k) := mkC_bytes.app (leB_bytes 8 _)
theorem flat_bytes {l : List Ct} : Bytes (l.flatMap oneS) := by
  intro x hx
  obtain ⟨c, _, hc⟩ := List.mem_flatMap.1 hx
  exact oneS_bytes c x hc
theorem oneS_inj {c d : Ct} (hc : RightC c) (hd : RightC d) (h : oneS c = oneS d) : c = d := by
  obtain ⟨a1, a2, a3, a4, a5, a6, a7⟩ := c
  obtain ⟨b1, b2, b3, b4, b5, b6, b7⟩ := d
  unfold RightC at hc hd
  simp only [] at hc hd
  have cn : ∀ {x : Int}, 0 ≤ x → x ≤ 255 → cnt x = [x, 0] := by
    intro x h0 h1
    unfold cnt
    rw [wrap_u64 (by unfold U64; omega)]
    simp only [leB]
    rw [show x % 256 = x by omega, show x / 256 % 256 = 0 by omega]
  have fl : ∀ {x y : Bool}, (if x = true then (1 : Int) else 0) = (if y = true then 1 else 0) → x = y := by
    intro x y hh
    cases x <;> cases y <;> simp_all
  unfold oneS at h
  simp only [wi64 (show -9223372036854775808 ≤ a4 + 127 ∧ a4 + 127 ≤ 9223372036854775807 by omega), wi64 (show -9223372036854775808 ≤ b4 + 127 ∧ b4 + 127 ≤ 9223372036854775807 by omega),
    wi64 (show -9223372036854775808 ≤ a5 + 1 ∧ a5 + 1 ≤ 9223372036854775807 by omega), wi64 (show -9223372036854775808 ≤ b5 + 1 ∧ b5 + 1 ≤ 9223372036854775807 by omega),
    cn hc.1.1 hc.1.2, cn hc.2.1.1 hc.2.1.2, cn hc.2.2.1.1 hc.2.2.1.2, cn hd.1.1 hd.1.2, cn hd.2.1.1 hd.2.1.2, cn hd.2.2.1.1 hd.2.2.1.2,
    cn (show 0 ≤ a4 + 127 by omega) (by omega), cn (show 0 ≤ b4 + 127 by omega) (by omega), cn (show 0 ≤ a5 + 1 by omega) (by omega), cn (show 0 ≤ b5 + 1 by omega) (by omega), flagB, List.cons_append, List.nil_append, List.cons.injEq, and_true] at h
  obtain ⟨h1, _, h2, _, h3, _, h4, _, h5, _, h6, h7⟩ := h
  rw [h1, h2, h3, fl h6, fl h7, show a4 = b4 by omega, show a5 = b5 by omega]
theorem flat_inj : ∀ {l m : List Ct}, l.length = m.length → (∀ c ∈ l, RightC c) → (∀ c ∈ m, RightC c) → l.flatMap oneS = m.flatMap oneS → l = m := by
  intro l
  induction l with
  | nil => intro m h _ _ _; exact (List.eq_nil_of_length_eq_zero h.symm).symm
  | cons c l ih =>
    intro m h hl hm he
    cases m with
    | nil => cases h
    | cons d m =>
      rw [List.flatMap_cons, List.flatMap_cons] at he
      obtain ⟨h1, h2⟩ := List.append_inj he (by rw [oneS_len, oneS_len])
      rw [oneS_inj (hl c (List.mem_cons_self ..)) (hm d (List.mem_cons_self ..)) h1, ih (by simpa using h) (fun x hx => hl x (List.mem_cons_of_mem _ hx)) (fun x hx => hm x (List.mem_cons_of_mem _ hx)) h2]
/-- Bytes of controls that are right are read as these. -/
theorem takeS_go {all : List Int} {s : RS} (hb : Bytes all) (h : s.2.2.1 = 0) (h0 : 0 ≤ s.1) (h2 : s.1 + 12 ≤ all.length) {c : Ct} (hc : RightC c) (hw : wdS all s.1.toNat 12 = oneS c) :
    (takeS all s).2.2.2.1 = 0 := by
  have p0 : s.1.toNat + 12 ≤ all.length := by omega
  rw [show (12 : Nat) = 2 + (2 + (2 + (2 + (2 + (1 + 1))))) from rfl, wd_app, wd_app, wd_app, wd_app, wd_app, wd_app] at hw
  unfold oneS at hw
  obtain ⟨e1, hw⟩ := List.append_inj hw (by rw [wdS_len (by omega), cnt_len])
  obtain ⟨e2, hw⟩ := List.append_inj hw (by rw [wdS_len (by omega), cnt_len])
  obtain ⟨e3, hw⟩ := List.append_inj hw (by rw [wdS_len (by omega), cnt_len])
  obtain ⟨e4, hw⟩ := List.append_inj hw (by rw [wdS_len (by omega), cnt_len])
  obtain ⟨e5, hw⟩ := List.append_inj hw (by rw [wdS_len (by omega), cnt_len])
  obtain ⟨e6, e7⟩ := List.append_inj hw (by rw [wdS_len (by omega), flagB_len])
  unfold RightC at hc
  have lv : ∀ {x : Int}, 0 ≤ x → x ≤ 255 → leV (cnt x) = x := by
    intro x h0 h1
    unfold cnt
    rw [wrap_u64 (by unfold U64; omega)]
    exact leV_leB 2 x h0 (by simp; omega)
  rw [wi64 (by omega)] at e4 e5
  have hfl : ∀ (b : Bool) (p : Nat), p + 1 ≤ all.length → wdS all p 1 = flagB b → all.getD p 0 ≤ 1 := by
    intro b p hp he
    rw [wd1 hp] at he
    have h9 : all.getD p 0 = if b then 1 else 0 := (List.cons.inj he).1
    rw [h9]; split <;> omega
  have q1 := countS_go (all := all) (lo := 0) (hi := 255) h (by omega) (by rw [e1, lv hc.1.1 hc.1.2]; exact hc.1.1) (by rw [e1, lv hc.1.1 hc.1.2]; exact hc.1.2)
  unfold takeS
  simp only []
  rw [q1]
  simp only []
  have t1 : (s.1 + 2).toNat = s.1.toNat + 2 := by omega
  have q2 := countS_go (all := all) (lo := 0) (hi := 255) (s := (s.1 + 2, (s.1, s.2.2))) h (by simp only []; omega) (by simp only [t1]; rw [e2, lv hc.2.1.1 hc.2.1.2]; exact hc.2.1.1) (by simp only [t1]; rw [e2, lv hc.2.1.1 hc.2.1.2]; exact hc.2.1.2)
  rw [q2]
  simp only []
  have t2 : (s.1 + 2 + 2).toNat = s.1.toNat + 2 + 2 := by omega
  have q3 := countS_go (all := all) (lo := 0) (hi := 255) (s := (s.1 + 2 + 2, (s.1 + 2, s.2.2))) h (by simp only []; omega) (by simp only [t2]; rw [e3, lv hc.2.2.1.1 hc.2.2.1.2]; exact hc.2.2.1.1) (by simp only [t2]; rw [e3, lv hc.2.2.1.1 hc.2.2.1.2]; exact hc.2.2.1.2)
  rw [q3]
  simp only []
  have t3 : (s.1 + 2 + 2 + 2).toNat = s.1.toNat + 2 + 2 + 2 := by omega
  have q4 := countS_go (all := all) (lo := 0) (hi := 254) (s := (s.1 + 2 + 2 + 2, (s.1 + 2 + 2, s.2.2))) h (by simp only []; omega) (by simp only [t3]; rw [e4, lv (by omega) (by omega)]; omega) (by simp only [t3]; rw [e4, lv (by omega) (by omega)]; omega)
  rw [q4]
  simp only []
  have t4 : (s.1 + 2 + 2 + 2 + 2).toNat = s.1.toNat + 2 + 2 + 2 + 2 := by omega
  have q5 := countS_go (all := all) (lo := 0) (hi := 9) (s := (s.1 + 2 + 2 + 2 + 2, (s.1 + 2 + 2 + 2, s.2.2))) h (by simp only []; omega) (by simp only [t4]; rw [e5, lv (by omega) (by omega)]; omega) (by simp only [t4]; rw [e5, lv (by omega) (by omega)]; omega)
  rw [q5]
  simp only []
  have t5 : (s.1 + 2 + 2 + 2 + 2 + 2).toNat = s.1.toNat + 2 + 2 + 2 + 2 + 2 := by omega
  have q6 := flagS_go (all := all) (s := (s.1 + 2 + 2 + 2 + 2 + 2, (s.1 + 2 + 2 + 2 + 2, s.2.2))) h (by simp only []; omega) (by simp only [t5]; exact hfl _ _ (by omega) e6)
  rw [q6]
  simp only []
  have t6 : (s.1 + 2 + 2 + 2 + 2 + 2 + 1).toNat = s.1.toNat + 2 + 2 + 2 + 2 + 2 + 1 := by omega
  have q7 := flagS_go (all := all) (s := (s.1 + 2 + 2 + 2 + 2 + 2 + 1, (s.1 + 2 + 2 + 2 + 2 + 2, s.2.2))) h (by simp only []; omega) (by simp only [t6]; exact hfl _ _ (by omega) e7)
  rw [q7]
  exact h
theorem dec_good {l : List Ct} (hl : l.length ≤ 500) (hr : ∀ c ∈ l, RightC c) : ∀ (d i n : Nat) (s : RS), i + d = l.length → d < n → s.2.2.1 = 0 → s.1 = 12 + 12 * (i : Int) → SOk (headC l.length ++ l.flatMap oneS).length s →
    ∃ r, K13_0 n ((l.length : Int), (l.take i, (s, headC l.length ++ l.flatMap oneS))) = some r ∧ r.1 = (0, 0) := by
  have hb : Bytes (headC l.length ++ l.flatMap oneS) := (headC_bytes _).app flat_bytes
  have hfl := flat_len oneS 12 l (fun x _ => oneS_len x)
  have hlen : (headC l.length ++ l.flatMap oneS).length = 12 + l.length * 12 := by rw [List.length_append, headC_len, hfl]
  intro d
  induction d with
  | zero =>
    intro i n s hi hn he hp hs
    obtain ⟨n, rfl⟩ : ∃ m, n = m + 1 := ⟨n - 1, by omega⟩
    rw [dec_step hb hs n _ _ (by simp; omega), if_neg (by rw [List.length_take]; omega)]
    refine ⟨_, rfl, ?_⟩
    unfold finS endS0
    rw [hlen, if_neg (show ¬ s.1 < ((12 + l.length * 12 : Nat) : Int) by omega), if_neg (by simp [he])]
  | succ d ih =>
    intro i n s hi hn he hp hs
    obtain ⟨n, rfl⟩ : ∃ m, n = m + 1 := ⟨n - 1, by omega⟩
    have hil : i < l.length := by omega
    rw [dec_step hb hs n _ _ (by simp; omega), if_pos (by rw [List.length_take]; omega)]
    have hw : wdS (headC l.length ++ l.flatMap oneS) s.1.toNat 12 = oneS l[i] := by
      unfold wdS
      rw [show s.1.toNat = (headC l.length).length + i * 12 by rw [headC_len]; omega, ← List.drop_drop, List.drop_left]
      exact flat_at oneS 12 l (fun x _ => oneS_len x) i l[i] (List.getElem?_eq_getElem hil)
    have hc := hr l[i] (List.getElem_mem hil)
    have h1 := takeS_go hb he (by omega) (by rw [hlen]; omega) hc hw
    obtain ⟨q1, q2, q3, q4, q5⟩ := takeS_in hb hs h1
    have e : (takeS (headC l.length ++ l.flatMap oneS) s).1 = l[i] := oneS_inj q3 hc (q4.trans hw)
    rw [e, show l.take i ++ [l[i]] = l.take (i + 1) by rw [List.take_add_one, List.getElem?_eq_getElem hil]; rfl]
    exact ih (i + 1) n _ (by omega) (by omega) h1 (by rw [q5]; omega) (takeS_ok hs)
theorem law6_0 (v) (h : Dom6_0 v) : F6_0 v = some true := by
  unfold F6_0
  by_cases hl : (v.length : Int) > 500
  · rw [decide_eq_true hl]; rfl
  · rw [decide_eq_false hl, cond_false, enc_eq (by omega), Option.bind_some]
    rcases encS_ok v (headC v.length) with ⟨h1, h2, h3⟩ | h1
    · simp only [h1, h3, bne_self_eq_false, cond_false]
      have hfl := flat_len oneS 12 v (fun x _ => oneS_len x)
      have hlen : (headC v.length ++ v.flatMap oneS).length = 12 + v.length * 12 := by rw [List.length_append, headC_len, hfl]
      have hb : Bytes (headC v.length ++ v.flatMap oneS) := (headC_bytes _).app flat_bytes
      obtain ⟨r, r1, r2, r3⟩ := dec_all hb (by rw [hlen]; omega)
      -- what is read first
      have hs0 := s0_ok (all := headC v.length ++ v.flatMap oneS) (by rw [hlen]; omega)
      have hw4 : wdS (headC v.length ++ v.flatMap oneS) 0 4 = mkC := by unfold wdS headC; rfl
      have hw8 : wdS (headC v.length ++ v.flatMap oneS) 4 8 = leB 8 (IntKind.wrap .u64 (v.length : Int)) := by unfold wdS headC; rfl
      have m1 := markS_go (all := headC v.length ++ v.flatMap oneS) (s := (0, (0, (0, 0)))) rfl (by rw [hlen]; simp only []; omega) hw4
      have n1 := numS_go (all := headC v.length ++ v.flatMap oneS) (s := (0 + 4, (0, (0, 0)))) rfl (by rw [hlen]; simp only []; omega)
      rw [show ((0 + 4 : Int)).toNat = 4 from rfl, hw8, wrap_u64 (show U64 (v.length : Int) by unfold U64; omega), leV_leB 8 _ (by omega) (by simp; omega), wi64 (by omega)] at n1
      have st : startS (headC v.length ++ v.flatMap oneS) = ((v.length : Int), (0 + 4 + 8, (0 + 4, (0, 0)))) := by
        unfold startS
        rw [m1, n1, stP_good (by simp only []; omega)]
      have hsk := startS_ok (all := headC v.length ++ v.flatMap oneS) (by rw [hlen]; omega)
      rw [st] at hsk
      obtain ⟨r', g1, g2⟩ := dec_good (l := v) (by omega) h2 v.length 0 1000 (0 + 4 + 8, (0 + 4, (0, 0))) (by omega) (by omega) rfl rfl hsk
      have hE := dec_E hb (by rw [hlen]; omega)
      rw [st] at hE
      have hr : r = r' := Option.some.inj (r1.symm.trans (hE.trans g1))
      subst hr
      rcases r3 with ⟨r3, _⟩ | ⟨_, r4, r5, r6⟩
      · rw [g2] at r3; exact absurd rfl r3
      · have hl2 : r.2.length = v.length := by
          have := congrArg List.length r4
          rw [hlen, List.length_append, headC_len, flat_len oneS 12 r.2 (fun x _ => oneS_len x)] at this
          omega
        rw [hl2] at r4
        have he := flat_inj hl2.symm h2 r5 (List.append_cancel_left r4)
        simp only [r1, Option.bind_some, g2, ← he, beq_self_eq_true, cond_true, same_eq (show v.length ≤ 500 by omega), awakeC]
    · simp only [h1]
      rw [show ((40 : Int) != 0) = true from rfl, cond_true]
      simp only [List.length_nil]
      rw [show (((0 : Nat) : Int) == 0) = true from rfl, cond_true, awakeC]; rfl
theorem coK (n : Nat) (v) : K7_0 (n + 1) v = B7_0_7 (K7_0 n) v := rfl
theorem co_go {b : List Int} {l : List Ct} (hl : l.length ≤ 500) (hr : ∀ c ∈ l, RightC c) (he : b = headC l.length ++ l.flatMap oneS) : ∀ (d i n : Nat), d < n → i + d = l.length → K7_0 n ((b, (i : Int)), l) = some true := by
  intro d
  induction d with
  | zero =>
    intro i n hn hi
    obtain ⟨n, rfl⟩ : ∃ m, n = m + 1 := ⟨n - 1, by omega⟩
    rw [coK]
    unfold B7_0_7
    rw [decide_eq_false (by simp; omega), cond_false, enc_eq hl, encS_right l _ hr, ← he]
    simp only [Option.bind_some, beq_self_eq_true, cond_true]
    rw [show strOf (E.enc 5) b = some _ from strOf_ints _ (fun _ => rfl) _]
    simp only [Option.bind_some, str_beq, decide_true, cond_true, awakeC]
  | succ d ih =>
    intro i n hn hi
    obtain ⟨n, rfl⟩ : ∃ m, n = m + 1 := ⟨n - 1, by omega⟩
    have hil : i < l.length := by omega
    rw [coK]
    unfold B7_0_7
    rw [decide_eq_true (show (i : Int) < (l.length : Int) by omega), cond_true]
    have e : idx (i : Int) l.length = some i := by unfold idx; rw [decide_eq_true (by omega)]; simp
    simp only [e, Option.bind_some, List.getElem?_eq_getElem hil, right_eq, rightN_y (hr _ (List.getElem_mem hil)), bne_self_eq_false, cond_false, wi64 (show -9223372036854775808 ≤ ((i : Int) + 1) ∧ ((i : Int) + 1) ≤ 9223372036854775807 by omega)]
    have := ih (i + 1) n (by omega) (by omega)
    rw [show ((i + 1 : Nat) : Int) = (i : Int) + 1 by omega] at this
    exact this
theorem law7_0 (v) (h : Dom7_0 v) : F7_0 v = some true := by
  unfold F7_0 E7_0
  by_cases hl : (v.length : Int) > 6000
  · rw [decide_eq_true hl]; rfl
  · rw [decide_eq_false hl, cond_false]
    obtain ⟨r, h1, _, h3⟩ := dec_all (dom_bytes h.2) (show v.length ≤ 6012 by omega)
    rw [h1, Option.bind_some]
    rcases h3 with ⟨a1, a2, a3, a4⟩ | ⟨a1, a2, a3, a4⟩
    · rw [bne_iff_ne.2 a1, cond_true, decide_eq_true (show r.1.2 ≥ 0 from a3), cond_true, decide_eq_true a4, cond_true, a2]
      simp only [List.length_nil]
      rw [show (((0 : Nat) : Int) == 0) = true from rfl, cond_true, awakeC]; rfl
    · rw [a1]
      simp only [bne_self_eq_false, cond_false]
      exact co_go a4 a3 a2 r.2.length 0 1000 (by omega) (by omega)
end Go.Proofs.Ytggfniipidepdaa.Ev
