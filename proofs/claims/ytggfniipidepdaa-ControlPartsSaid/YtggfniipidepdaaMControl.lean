/- Chapter 19: controls and their bytes. -/
import Derived.Test.YtggfniipidepdaaMWireR
import Derived.Test.YtggfniipidepdaaMRef
import Derived.Test.YtggfniipidepdaaMFx
set_option linter.unusedVariables false
set_option linter.unusedSimpArgs false
namespace Go.Proofs.Ytggfniipidepdaa.Ev
open Go

abbrev Ct : Type := Int × Int × Int × Int × Int × Bool × Bool
def RightC (c : Ct) : Prop := (0 ≤ c.1 ∧ c.1 ≤ 255) ∧ (0 ≤ c.2.1 ∧ c.2.1 ≤ 255) ∧ (0 ≤ c.2.2.1 ∧ c.2.2.1 ≤ 255) ∧ (-127 ≤ c.2.2.2.1 ∧ c.2.2.2.1 ≤ 127) ∧ (-1 ≤ c.2.2.2.2.1 ∧ c.2.2.2.2.1 ≤ 8)
instance (c : Ct) : Decidable (RightC c) := by unfold RightC; infer_instance
def rightN (c : Ct) : Int := if RightC c then 0 else 40
theorem within_eq (x lo hi : Int) : F27_0 (x, (lo, hi)) = some (decide (lo ≤ x ∧ x ≤ hi)) := by
  unfold F27_0
  by_cases h : lo ≤ x
  · simp [h]
  · simp [h]
theorem in_eq (x lo hi : Int) : F28_0 (x, (lo, hi)) = some (decide (lo ≤ x ∧ x ≤ hi)) := by
  unfold F28_0
  by_cases h : lo ≤ x
  · simp [h]
  · simp [h]
theorem rightN_y {c : Ct} (h : RightC c) : rightN c = 0 := if_pos h
theorem rightN_n {c : Ct} (h : ¬ RightC c) : rightN c = 40 := if_neg h
theorem min3 (t b k : Int) : (if k < (if b < t then b else t) then k else (if b < t then b else t)) ≤ t ∧ (if k < (if b < t then b else t) then k else (if b < t then b else t)) ≤ b ∧ (if k < (if b < t then b else t) then k else (if b < t then b else t)) ≤ k ∧
    ((if k < (if b < t then b else t) then k else (if b < t then b else t)) = t ∨ (if k < (if b < t then b else t) then k else (if b < t then b else t)) = b ∨ (if k < (if b < t then b else t) then k else (if b < t then b else t)) = k) := by
  by_cases h : b < t
  · simp only [h, if_true]; split <;> omega
  · simp only [h, if_false]; split <;> omega
theorem max3 (t b k : Int) : t ≤ (if k > (if b > t then b else t) then k else (if b > t then b else t)) ∧ b ≤ (if k > (if b > t then b else t) then k else (if b > t then b else t)) ∧ k ≤ (if k > (if b > t then b else t) then k else (if b > t then b else t)) ∧
    ((if k > (if b > t then b else t) then k else (if b > t then b else t)) = t ∨ (if k > (if b > t then b else t) then k else (if b > t then b else t)) = b ∨ (if k > (if b > t then b else t) then k else (if b > t then b else t)) = k) := by
  by_cases h : b > t
  · simp only [h, if_true]; split <;> omega
  · simp only [h, if_false]; split <;> omega
theorem right_eq (c : Ct) : F10_0 c = some (rightN c) := by
  obtain ⟨t, b, k, s, g, a, r⟩ := c
  unfold F10_0
  simp only [within_eq, Option.bind_some]
  have hm := min3 t b k
  have hM := max3 t b k
  generalize (if k < (if b < t then b else t) then k else (if b < t then b else t)) = m at hm ⊢
  generalize (if k > (if b > t then b else t) then k else (if b > t then b else t)) = M at hM ⊢
  by_cases h1 : 0 ≤ m ∧ m ≤ 255
  · rw [decide_eq_true h1]
    simp only [Bool.not_true, cond_false]
    by_cases h2 : M > 255
    · rw [decide_eq_true h2, cond_true, rightN_n (fun h => by unfold RightC at h; simp only [] at h; omega)]
    · rw [decide_eq_false h2, cond_false]
      by_cases h4 : -127 ≤ s ∧ s ≤ 127
      · rw [decide_eq_true h4]
        simp only [Bool.not_true, cond_false]
        by_cases h5 : -1 ≤ g ∧ g ≤ 8
        · rw [decide_eq_true h5, rightN_y (by unfold RightC; simp only []; omega)]; rfl
        · rw [decide_eq_false h5, rightN_n (fun h => h5 h.2.2.2.2)]; rfl
      · rw [decide_eq_false h4, rightN_n (fun h => h4 h.2.2.2.1)]; rfl
  · rw [decide_eq_false h1]
    simp only [Bool.not_false, cond_true]
    rw [rightN_n (fun h => by unfold RightC at h; simp only [] at h; omega)]
theorem rright_eq (c : Ct) : F11_0 c = some (rightN c) := by
  obtain ⟨t, b, k, s, g, a, r⟩ := c
  unfold F11_0
  simp only [in_eq, Option.bind_some]
  by_cases h1 : 0 ≤ t ∧ t ≤ 255
  · rw [decide_eq_true h1, cond_true]
    by_cases h2 : 0 ≤ b ∧ b ≤ 255
    · rw [decide_eq_true h2, cond_true]
      by_cases h3 : 0 ≤ k ∧ k ≤ 255
      · rw [decide_eq_true h3, cond_true]
        by_cases h4 : -127 ≤ s ∧ s ≤ 127
        · rw [decide_eq_true h4, cond_true]
          by_cases h5 : -1 ≤ g ∧ g ≤ 8
          · rw [decide_eq_true h5, cond_true, rightN_y ⟨h1, h2, h3, h4, h5⟩]
          · rw [decide_eq_false h5, cond_false, rightN_n (fun h => h5 h.2.2.2.2)]
        · rw [decide_eq_false h4, cond_false, rightN_n (fun h => h4 h.2.2.2.1)]
      · rw [decide_eq_false h3, cond_false, rightN_n (fun h => h3 h.2.2.1)]
    · rw [decide_eq_false h2, cond_false, rightN_n (fun h => h2 h.2.1)]
  · rw [decide_eq_false h1, cond_false, rightN_n (fun h => h1 h.1)]
/-- A control's bytes. -/
def cnt (n : Int) : List Int := leB 2 (IntKind.wrap .u64 n)
theorem cnt_len (n : Int) : (cnt n).length = 2 := leB_len 2 _
def oneS (c : Ct) : List Int := cnt c.1 ++ (cnt c.2.1 ++ (cnt c.2.2.1 ++ (cnt (IntKind.wrap .i64 (c.2.2.2.1 + 127)) ++ (cnt (IntKind.wrap .i64 (c.2.2.2.2.1 + 1)) ++ (flagB c.2.2.2.2.2.1 ++ flagB c.2.2.2.2.2.2)))))
theorem flagB_len (b : Bool) : (flagB b).length = 1 := rfl
theorem oneS_len (c : Ct) : (oneS c).length = 12 := by simp [oneS, cnt_len, flagB_len]
theorem putK (n : Nat) (v) : K22_0 (n + 1) v = B22_0_2 (K22_0 n) v := rfl
theorem put_step (n : Nat) (i : Nat) (hi : i < 5) (a0 a1 a2 a3 a4 : Int) (c : Ct) (b : List Int) (hb : Small b) :
    K22_0 (n + 1) (((a0, (a1, (a2, (a3, a4)))), (i : Int)), (c, b)) = K22_0 n (((a0, (a1, (a2, (a3, a4)))), ((i + 1 : Nat) : Int)), (c, b ++ cnt (List.getD [a0, a1, a2, a3, a4] i 0))) := by
  rw [putK]
  unfold B22_0_2
  rw [decide_eq_true (show (i : Int) < 5 by omega), cond_true]
  have e : idx (i : Int) 5 = some i := by unfold idx; rw [decide_eq_true (by omega)]; simp
  simp only [e, Option.bind_some, ocount_eq _ hb, wi64 (show -9223372036854775808 ≤ ((i : Int) + 1) ∧ ((i : Int) + 1) ≤ 9223372036854775807 by omega)]
  rfl
theorem put_loop (n : Nat) (a0 a1 a2 a3 a4 : Int) (c : Ct) (b : List Int) (hb : b.length ≤ 99999900) :
    K22_0 (n + 6) (((a0, (a1, (a2, (a3, a4)))), 0), (c, b)) = some (b ++ (cnt a0 ++ (cnt a1 ++ (cnt a2 ++ (cnt a3 ++ (cnt a4 ++ (flagB c.2.2.2.2.2.1 ++ flagB c.2.2.2.2.2.2))))))) := by
  refine (put_step (n + 5) 0 (by omega) a0 a1 a2 a3 a4 c b (by unfold Small; omega)).trans ?_
  refine (put_step (n + 4) 1 (by omega) a0 a1 a2 a3 a4 c _ (by unfold Small; simp [cnt_len]; omega)).trans ?_
  refine (put_step (n + 3) 2 (by omega) a0 a1 a2 a3 a4 c _ (by unfold Small; simp [cnt_len]; omega)).trans ?_
  refine (put_step (n + 2) 3 (by omega) a0 a1 a2 a3 a4 c _ (by unfold Small; simp [cnt_len]; omega)).trans ?_
  refine (put_step (n + 1) 4 (by omega) a0 a1 a2 a3 a4 c _ (by unfold Small; simp [cnt_len]; omega)).trans ?_
  rw [putK]
  unfold B22_0_2
  rw [decide_eq_false (show ¬ (((4 + 1 : Nat) : Int)) < 5 by decide), cond_false]
  show ((F47_0 (c.2.2.2.2.2.1, b ++ cnt a0 ++ cnt a1 ++ cnt a2 ++ cnt a3 ++ cnt a4)).bind fun r => (F47_0 (c.2.2.2.2.2.2, r)).bind fun r => some r) = _
  have h1 : Small (b ++ cnt a0 ++ cnt a1 ++ cnt a2 ++ cnt a3 ++ cnt a4) := by unfold Small; simp [cnt_len]; omega
  have h2 : Small (b ++ cnt a0 ++ cnt a1 ++ cnt a2 ++ cnt a3 ++ cnt a4 ++ flagB c.2.2.2.2.2.1) := by unfold Small; simp [cnt_len, flagB_len]; omega
  rw [oflag_eq _ h1, Option.bind_some, oflag_eq _ h2, Option.bind_some]
  simp only [List.append_assoc]
theorem put_eq (c : Ct) {b : List Int} (hb : b.length ≤ 99999900) : F22_0 (c, b) = some (b ++ oneS c) :=
  put_loop 994 c.1 c.2.1 c.2.2.1 (IntKind.wrap .i64 (c.2.2.2.1 + 127)) (IntKind.wrap .i64 (c.2.2.2.2.1 + 1)) c b hb
theorem rone_eq (c : Ct) : F26_0 c = some (oneS c) := by
  unfold F26_0
  simp only [rcount_eq, rflag_eq, Option.bind_some]
  rw [chkT (by simp [leB_len, flagB_len])]
  rw [chkT (by simp [leB_len, flagB_len])]
  rw [chkT (by simp [leB_len, flagB_len])]
  rw [chkT (by simp [leB_len, flagB_len])]
  rw [chkT (by simp [leB_len, flagB_len])]
  rw [chkT (by simp [leB_len, flagB_len])]
  simp only [List.append_assoc]
  rfl
/-! ### All controls -/
def mkC : List Int := [67, 72, 83, 67]
theorem markedC : F44_0 sc0 = some (67, (72, (83, 67))) := by kernel_rfl
theorem rmarkC : F24_0 sc0 = some mkC := by kernel_rfl
def encS (out : List Int) : List Ct → Int × List Int
  | [] => (0, out)
  | c :: r => if RightC c then encS (out ++ oneS c) r else (40, [])
theorem encS_right : ∀ (l : List Ct) (out : List Int), (∀ c ∈ l, RightC c) → encS out l = (0, out ++ l.flatMap oneS) := by
  intro l
  induction l with
  | nil => intro out _; simp [encS]
  | cons c l ih =>
    intro out h
    simp only [encS]
    rw [if_pos (h c (List.mem_cons_self ..)), ih _ fun x hx => h x (List.mem_cons_of_mem _ hx)]
    simp [List.append_assoc]
theorem encS_ok : ∀ (l : List Ct) (out : List Int), ((encS out l).1 = 0 ∧ (∀ c ∈ l, RightC c) ∧ (encS out l).2 = out ++ l.flatMap oneS) ∨ encS out l = (40, []) := by
  intro l
  induction l with
  | nil => intro out; exact .inl ⟨rfl, by simp, by simp [encS]⟩
  | cons c l ih =>
    intro out
    simp only [encS]
    by_cases h : RightC c
    · rw [if_pos h]
      rcases ih (out ++ oneS c) with ⟨h1, h2, h3⟩ | h1
      · refine .inl ⟨h1, fun x hx => ?_, by rw [h3]; simp [List.append_assoc]⟩
        rcases List.mem_cons.1 hx with rfl | hx
        · exact h
        · exact h2 x hx
      · exact .inr h1
    · rw [if_neg h]; exact .inr rfl
theorem clone_eq {v : List Int} (h : v.length ≤ 140737488355328) : F48_0 v = some v := by
  show (chk _).bind _ = _
  rw [chkT (by simp; omega)]; rfl
theorem obytes_eq {v : List Int} (h : v.length ≤ 140737488355328) : F23_0 v = some (v, v) := by
  unfold F23_0
  rw [clone_eq h]; rfl
theorem rdx_n {α : Type} {l : List α} {i : Nat} (h : i < l.length) : rdx l (i : Int) = some l[i] := by
  unfold rdx
  rw [decide_eq_true (by omega)]
  simp [List.getElem?_eq_getElem h]
theorem encK (n : Nat) (v) : K8_0 (n + 1) v = B8_0_7 (K8_0 n) v := rfl
theorem enc_go (l : List Ct) : ∀ (d i n : Nat) (b : List Int), d < n → i + d = l.length → l.length ≤ 500 → b.length = 12 + 12 * i → K8_0 n ((l, ((l.length : Int), (i : Int))), b) = some (encS b (l.drop i)) := by
  intro d
  induction d with
  | zero =>
    intro i n b hn hi hl hb
    obtain ⟨n, rfl⟩ : ∃ m, n = m + 1 := ⟨n - 1, by omega⟩
    rw [encK]
    unfold B8_0_7
    rw [decide_eq_false (by simp; omega), cond_false, List.drop_eq_nil_of_le (by omega), obytes_eq (by simp only []; omega)]
    rfl
  | succ d ih =>
    intro i n b hn hi hl hb
    obtain ⟨n, rfl⟩ : ∃ m, n = m + 1 := ⟨n - 1, by omega⟩
    have hil : i < l.length := by omega
    rw [encK]
    unfold B8_0_7
    rw [decide_eq_true (show (i : Int) < (l.length : Int) by omega), cond_true, List.drop_eq_getElem_cons hil]
    simp only [rdx_n hil, right_eq, Option.bind_some, put_eq l[i] (show b.length ≤ 99999900 by omega), wi64 (show -9223372036854775808 ≤ ((i : Int) + 1) ∧ ((i : Int) + 1) ≤ 9223372036854775807 by omega)]
    unfold rightN
    simp only [encS]
    by_cases h : RightC l[i]
    · rw [if_pos h, if_pos h]
      have := ih (i + 1) n (b ++ oneS l[i]) (by omega) (by omega) hl (by simp [oneS_len]; omega)
      rw [show ((i + 1 : Nat) : Int) = (i : Int) + 1 by omega] at this
      exact this
    · rw [if_neg h, if_neg h]; rfl
def headC (k : Nat) : List Int := mkC ++ leB 8 (IntKind.wrap .u64 (k : Int))
theorem headC_len (k : Nat) : (headC k).length = 12 := by simp [headC, mkC, leB_len]
theorem enc_eq {l : List Ct} (h : l.length ≤ 500) : F8_0 l = some (encS (headC l.length) l) := by
  unfold F8_0 E8_0
  rw [decide_eq_false (show ¬ (l.length : Int) > 16777216 by omega), cond_false]
  have e1 : F20_0 (sc0, ([] : List Int)) = some mkC := by
    unfold F20_0
    rw [markedC]
    rfl
  rw [e1, Option.bind_some, onum_eq _ (by unfold Small mkC; simp), Option.bind_some]
  have := enc_go l l.length 0 1000 (headC l.length) (by omega) (by omega) h (by rw [headC_len])
  rw [List.drop_zero] at this
  exact this
theorem rencK (n : Nat) (v) : K9_0 (n + 1) v = B9_0_5 (K9_0 n) v := rfl
theorem renc_go (l : List Ct) : ∀ (d i n : Nat) (b : List Int), d < n → i + d = l.length → l.length ≤ 500 → b.length = 12 + 12 * i → K9_0 n ((l, (i : Int)), b) = some (encS b (l.drop i)) := by
  intro d
  induction d with
  | zero =>
    intro i n b hn hi hl hb
    obtain ⟨n, rfl⟩ : ∃ m, n = m + 1 := ⟨n - 1, by omega⟩
    rw [rencK]
    unfold B9_0_5
    rw [decide_eq_false (by simp; omega), cond_false, List.drop_eq_nil_of_le (by omega)]
    rfl
  | succ d ih =>
    intro i n b hn hi hl hb
    obtain ⟨n, rfl⟩ : ∃ m, n = m + 1 := ⟨n - 1, by omega⟩
    have hil : i < l.length := by omega
    rw [rencK]
    unfold B9_0_5
    rw [decide_eq_true (show (i : Int) < (l.length : Int) by omega), cond_true, List.drop_eq_getElem_cons hil]
    simp only [rdx_n hil, rright_eq, Option.bind_some, rone_eq, wi64 (show -9223372036854775808 ≤ ((i : Int) + 1) ∧ ((i : Int) + 1) ≤ 9223372036854775807 by omega)]
    unfold rightN
    simp only [encS]
    by_cases h : RightC l[i]
    · rw [if_pos h, if_pos h]
      have := ih (i + 1) n (b ++ oneS l[i]) (by omega) (by omega) hl (by simp [oneS_len]; omega)
      rw [show ((i + 1 : Nat) : Int) = (i : Int) + 1 by omega] at this
      refine Eq.trans ?_ this
      simp only [bne_self_eq_false, cond_false]
      exact chkB (by omega) (by rw [oneS_len]; omega) _
    · rw [if_neg h, if_neg h]; rfl
theorem renc_eq {l : List Ct} (h : l.length ≤ 500) : F9_0 l = some (encS (headC l.length) l) := by
  unfold F9_0 E9_0
  rw [decide_eq_false (show ¬ (l.length : Int) > 16777216 by omega), cond_false, rmarkC, Option.bind_some, rnum_eq, Option.bind_some]
  refine (chkB (by simp [mkC]) (by simp [leB_len]) _).trans ?_
  have := renc_go l l.length 0 1000 (headC l.length) (by omega) (by omega) h (by rw [headC_len])
  rw [List.drop_zero] at this
  exact this
theorem awakeC : F12_0 () = some true := by kernel_rfl

/-! ### ControlEncode -/
theorem ceK (n : Nat) (v) : K3_0 (n + 1) v = B3_0_6 (K3_0 n) v := rfl
theorem ce_go (l : List Ct) (e : Int) (b : List Int) : ∀ (d i n : Nat), d < n → i + d = l.length → l.length ≤ 500 → K3_0 n ((l, (e, (e, (i : Int)))), (b, b)) = some true := by
  intro d
  induction d with
  | zero =>
    intro i n hn hi hl
    obtain ⟨n, rfl⟩ : ∃ m, n = m + 1 := ⟨n - 1, by omega⟩
    rw [ceK]
    unfold B3_0_6
    rw [decide_eq_false (by simp; omega), cond_false]
    rw [show strOf (E.enc 5) b = some _ from strOf_ints _ (fun _ => rfl) _]
    simp only [Option.bind_some, str_beq, decide_true, cond_true, beq_self_eq_true, awakeC]
  | succ d ih =>
    intro i n hn hi hl
    obtain ⟨n, rfl⟩ : ∃ m, n = m + 1 := ⟨n - 1, by omega⟩
    have hil : i < l.length := by omega
    rw [ceK]
    unfold B3_0_6
    rw [decide_eq_true (show (i : Int) < (l.length : Int) by omega), cond_true]
    simp only [rdx_n hil, right_eq, rright_eq, Option.bind_some, bne_self_eq_false, cond_false, wi64 (show -9223372036854775808 ≤ ((i : Int) + 1) ∧ ((i : Int) + 1) ≤ 9223372036854775807 by omega)]
    have := ih (i + 1) n (by omega) (by omega) hl
    rw [show ((i + 1 : Nat) : Int) = (i : Int) + 1 by omega] at this
    exact this
theorem law3_0 (v) (h : Dom3_0 v) : F3_0 v = some true := by
  unfold F3_0 E3_0
  by_cases hl : (v.length : Int) > 500
  · rw [decide_eq_true hl]; rfl
  · rw [decide_eq_false hl, cond_false, enc_eq (by omega), renc_eq (by omega)]
    exact ce_go v _ _ v.length 0 1000 (by omega) (by omega) (by omega)

/-! ### ControlParts -/
theorem part_eq (n : Int) : F16_0 n = some (divS (if n < 0 then 0 else if n > 255 then 255 else n) 255) := by
  unfold F16_0
  have e : (if (255 : Int) < (if (0 : Int) > n then (0 : Int) else n) then (255 : Int) else (if (0 : Int) > n then (0 : Int) else n)) = (if n < 0 then 0 else if n > 255 then 255 else n) := by split <;> split <;> (try split) <;> (try split) <;> omega
  simp only [e]
  have hi : I64 (if n < 0 then 0 else if n > 255 then 255 else n) := by unfold I64; split <;> (try split) <;> omega
  unfold F42_0
  rw [ratio_p hi (by decide)]
  rfl
theorem rpart_eq (n : Int) : F17_0 n = some (divS (if n < 0 then 0 else if n > 255 then 255 else n) 255) := by
  unfold F17_0
  have e : (if (0 : Int) > (if (255 : Int) < n then (255 : Int) else n) then (0 : Int) else (if (255 : Int) < n then (255 : Int) else n)) = (if n < 0 then 0 else if n > 255 then 255 else n) := by split <;> split <;> (try split) <;> (try split) <;> omega
  simp only [e]
  have hi : I64 (if n < 0 then 0 else if n > 255 then 255 else n) := by unfold I64; split <;> (try split) <;> omega
  rw [rratio_eq hi (by decide)]
  rfl
theorem lean_eq (n : Int) : F18_0 n = some (divS (if n < -127 then -127 else if n > 127 then 127 else n) 127) := by
  unfold F18_0
  have e : (if (127 : Int) < (if (-127 : Int) > n then (-127 : Int) else n) then (127 : Int) else (if (-127 : Int) > n then (-127 : Int) else n)) = (if n < -127 then -127 else if n > 127 then 127 else n) := by split <;> split <;> (try split) <;> (try split) <;> omega
  simp only [e]
  have hi : I64 (if n < -127 then -127 else if n > 127 then 127 else n) := by unfold I64; split <;> (try split) <;> omega
  unfold F42_0
  rw [ratio_p hi (by decide)]
  rfl
theorem rlean_eq (n : Int) : F19_0 n = some (divS (if n < -127 then -127 else if n > 127 then 127 else n) 127) := by
  unfold F19_0
  have e : (if (-127 : Int) > (if (127 : Int) < n then (127 : Int) else n) then (-127 : Int) else (if (127 : Int) < n then (127 : Int) else n)) = (if n < -127 then -127 else if n > 127 then 127 else n) := by split <;> split <;> (try split) <;> (try split) <;> omega
  simp only [e]
  have hi : I64 (if n < -127 then -127 else if n > 127 then 127 else n) := by unfold I64; split <;> (try split) <;> omega
  rw [rratio_eq hi (by decide)]
  rfl
theorem part_in {n : Int} (h0 : 0 ≤ n) (h1 : n ≤ 255) : 0 ≤ divS n 255 ∧ divS n 255 ≤ 4294967296 := by
  have hr : divR n 255 = rhe (n * 4294967296) 255 := by
    unfold divR
    rw [if_pos (by omega)]
  have h2 := rhe_nonneg (n := n * 4294967296) (d := 255) (by omega) (by omega)
  have h3 := rhe_le (n := n * 4294967296) (d := 255) (M := 4294967296) (by omega) (by omega)
  unfold divS
  rw [if_neg (by omega), hr, sat_in (by unfold I64; omega)]
  exact ⟨h2, h3⟩
theorem law5_0 (v) (h : Dom5_0 v) : F5_0 v = some true := by
  unfold F5_0
  have h1 := part_in (n := if v < 0 then 0 else if v > 255 then 255 else v) (by split <;> (try split) <;> omega) (by split <;> (try split) <;> omega)
  simp only [part_eq, rpart_eq, lean_eq, rlean_eq, Option.bind_some, beq_self_eq_true, cond_true]
  rw [decide_eq_true (show _ ≥ (0 : Int) from h1.1), decide_eq_true (show _ ≤ (4294967296 : Int) from h1.2), awakeC]
  rfl
end Go.Proofs.Ytggfniipidepdaa.Ev
