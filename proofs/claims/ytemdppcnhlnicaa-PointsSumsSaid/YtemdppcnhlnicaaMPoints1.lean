/- Points: what is wrong with a scale, what a place brings, and what few rounds are: the functions told as plain ones. -/
import Derived.Test.YtemdppcnhlnicaaXFns
set_option linter.unusedVariables false
set_option linter.unusedSimpArgs false
namespace Go.Proofs.Ytemdppcnhlnicaa.Ev
open Go
theorem bnd' {α β : Type} (a : α) (f : α → Option β) : (some a).bind f = f a := (congrArg (fun x => Option.bind x f) (Eq.refl (some a))).trans (Eq.refl (f a))
theorem w64 {x : Int} (h : -9223372036854775808 ≤ x ∧ x ≤ 9223372036854775807) : IntKind.wrap .i64 x = x := by rw [IntKind.wrap_i64]; omega
theorem srd {α : Type} {l : List α} {i : Nat} (h : i < l.length) : rdx l (i : Int) = some l[i] := by
  unfold rdx
  rw [decide_eq_true (by omega)]
  simp [List.getElem?_eq_getElem h]
theorem sidx {i n : Nat} (h : i < n) : idx (i : Int) n = some i := by unfold idx; rw [decide_eq_true (by omega)]; simp
theorem idx_rdx {α β : Type} (l : List α) (i : Int) (f : α → Option β) : ((idx i l.length).bind fun k => (l[k]?).bind f) = (rdx l i).bind f := by
  unfold idx rdx
  by_cases h : 0 ≤ i
  · rw [decide_eq_true h]
    by_cases h2 : i < (l.length : Int)
    · rw [decide_eq_true ⟨h, h2⟩]; rfl
    · rw [decide_eq_false (fun hh => h2 hh.2)]
      simp only []
      rw [List.getElem?_eq_none (by omega)]; rfl
  · rw [decide_eq_false h, decide_eq_false (fun hh => h hh.1)]; rfl
theorem rd_mid {α : Type} (pre : List α) (c : α) (rest : List α) : rdx (pre ++ c :: rest) (pre.length : Int) = some c := by
  rw [srd (by simp)]; simp
theorem w_mid {α : Type} (pre : List α) (c : α) (h : pre.length < 4611686018427387904) : IntKind.wrap .i64 ((pre.length : Int) + 1) = ((pre ++ [c]).length : Int) := by
  rw [w64 (by omega), List.length_append]; rfl
theorem lt_mid {α : Type} (pre : List α) (c : α) (rest : List α) : decide ((pre.length : Int) < ((pre ++ c :: rest).length : Int)) = true := decide_eq_true (by simp; omega)
theorem lt_end {α : Type} (pre : List α) : decide ((pre.length : Int) < ((pre ++ ([] : List α)).length : Int)) = false := decide_eq_false (by simp)
theorem gD_lt {l : List Int} {k : Nat} (h : k < l.length) : l.getD k 0 = l[k] := by simp [List.getD_eq_getElem?_getD, h]
theorem gD_ge {l : List Int} {k : Nat} (h : l.length ≤ k) : l.getD k 0 = 0 := by simp [List.getD_eq_getElem?_getD, h]
theorem mid_snoc {α : Type} (pre : List α) (c : α) (rest : List α) : pre ++ c :: rest = (pre ++ [c]) ++ rest := by simp

abbrev Rnd : Type := List Int × Int
abbrev Sca : Type := List Int × Int
/-! ### Few -/
def Few (s : Sca) (l : List Rnd) : Prop := l.length ≤ 30 ∧ s.1.length ≤ 100 ∧ ∀ r ∈ l, r.1.length ≤ 60
theorem few_loop (s : Sca) (l : List Rnd) : ∀ (d i f : Nat), i + d = 30 → d < f → (∀ k (hk : k < l.length), k < i → l[k].1.length ≤ 60) →
    ∃ b, K7_0 f ((l, (i : Int)), s) = some b ∧ (b = true → Few s l) := by
  intro d
  have fin : ∀ (i : Nat), (i ≥ l.length ∨ i = 30) → (∀ k (hk : k < l.length), k < i → l[k].1.length ≤ 60) → ∃ b, (bif decide ((l.length : Int) ≤ 30) then some (decide ((s.1.length : Int) ≤ 100)) else some false) = some b ∧ (b = true → Few s l) := by
    intro i hi hp
    by_cases h1 : (l.length : Int) ≤ 30
    · rw [decide_eq_true h1, cond_true]
      refine ⟨_, rfl, fun h => ⟨by omega, by have := of_decide_eq_true h; omega, fun r hr => ?_⟩⟩
      obtain ⟨k, hk, rfl⟩ := List.mem_iff_getElem.1 hr
      exact hp k hk (by omega)
    · rw [decide_eq_false h1, cond_false]; exact ⟨_, rfl, fun h => by cases h⟩
  induction d with
  | zero =>
    intro i f hi hf hp
    obtain ⟨f, rfl⟩ : ∃ q, f = q + 1 := ⟨f - 1, by omega⟩
    obtain ⟨b, h1, h2⟩ := fin i (by omega) hp
    refine ⟨b, ?_, h2⟩
    show B7_0_2 (K7_0 f) _ = _
    unfold B7_0_2
    by_cases hc : i < l.length
    · rw [decide_eq_true (by simp only []; omega), cond_true, decide_eq_false (by simp only []; omega), cond_false]; exact h1
    · rw [decide_eq_false (by simp only []; omega), cond_false]; exact h1
  | succ d ih =>
    intro i f hi hf hp
    obtain ⟨f, rfl⟩ : ∃ q, f = q + 1 := ⟨f - 1, by omega⟩
    by_cases hil : i < l.length
    case neg =>
      obtain ⟨b, h1, h2⟩ := fin i (by omega) hp
      refine ⟨b, ?_, h2⟩
      show B7_0_2 (K7_0 f) _ = _
      unfold B7_0_2
      rw [decide_eq_false (by simp only []; omega), cond_false]; exact h1
    have st : K7_0 (f + 1) ((l, (i : Int)), s) = bif decide ((l[i].1.length : Int) > 60) then some false else K7_0 f ((l, ((i + 1 : Nat) : Int)), s) := by
      show B7_0_2 (K7_0 f) _ = _
      unfold B7_0_2
      rw [decide_eq_true (by simp only []; omega), cond_true, decide_eq_true (by simp only []; omega), cond_true]
      simp only [srd hil, bnd']
      rw [w64 (by omega)]
      rfl
    rw [st]
    by_cases h1 : (l[i].1.length : Int) > 60
    · rw [decide_eq_true h1, cond_true]; exact ⟨false, rfl, fun h => by cases h⟩
    · rw [decide_eq_false h1, cond_false]
      exact ih (i + 1) f (by omega) (by omega) (fun k hk hki => by
        by_cases ek : k = i
        · subst ek; omega
        · exact hp k hk (by omega))
theorem f7 (s : Sca) (l : List Rnd) : ∃ b, F7_0 (s, l) = some b ∧ (b = true → Few s l) := few_loop s l 30 0 1000 (by omega) (by omega) (fun k hk h => by omega)
/-! ### Plain: rounds as the document's -/
theorem k8 (s : Sca) (l : List Rnd) (hl : l.length ≤ 60) (z1 : Int) (z2 : List Int) : ∀ (rest pre : List Rnd) (n : Nat), l = pre ++ rest → K8_0 (n + rest.length + 1) ((l, (pre.length : Int)), (pre, (z1, (z2, s)))) = some (s, l) := by
  intro rest
  induction rest with
  | nil =>
    intro pre n h
    subst h
    show B8_0_3 (K8_0 _) _ = _
    unfold B8_0_3
    have e : decide ((pre.length : Int) < (pre.length : Int)) = false := decide_eq_false (by omega)
    simp only [List.append_nil, e, cond_false]
  | cons c rest ih =>
    intro pre n h
    have := ih (pre ++ [c]) n (by rw [h]; simp)
    subst h
    have hl' : pre.length + (rest.length + 1) ≤ 60 := by simpa using hl
    show B8_0_3 (K8_0 (n + (rest.length + 1))) _ = _
    unfold B8_0_3
    simp only [lt_mid, cond_true, rd_mid, bnd', w_mid pre c (by omega)]
    rw [show chk (decide ((pre.length + [(c.1, c.2)].length) * 32 ≤ 140737488355328)) = some () by rw [decide_eq_true (by simp; omega)]; rfl, bnd']
    exact this
theorem f8_0 (s : Sca) (l : List Rnd) (hl : l.length ≤ 60) : F8_0 (s, l) = some (s, l) := by
  obtain ⟨n, hn⟩ : ∃ n, 1000 = n + l.length + 1 := ⟨1000 - l.length - 1, by omega⟩
  show K8_0 1000 _ = _
  rw [hn]
  exact k8 s l hl 0 [] l [] n rfl
theorem f8_1 (s : Sca) (r : Rnd) : F8_1 (s, [r]) = some (s, ([r], [r])) := by
  show B8_1_3 (B8_1_3 (K8_1 998)) (0, ([], (0, ([], (s, [r]))))) = _
  simp [B8_1_3, idx, chk, IntKind.wrap, IntKind.bits, IntKind.signed]
/-! ### Right -/
def okN (x : Int) : Bool := decide (0 ≤ x ∧ x ≤ 1000)
def errOf (s : Sca) : Int := if 1 ≤ s.1.length ∧ s.1.length ≤ 50 then (if okN s.2 && s.1.all okN then 0 else 40) else 42
def good (s : Sca) : Bool := errOf s == 0
theorem f19 (n : Int) : F19_0 n = some (!okN n) := by
  unfold F19_0 okN
  by_cases h : n < 0
  · rw [decide_eq_true h, cond_true, decide_eq_false (by omega)]; rfl
  · rw [decide_eq_false h, cond_false]
    by_cases h2 : n > 1000
    · rw [decide_eq_true h2, decide_eq_false (by omega)]; rfl
    · rw [decide_eq_false h2, decide_eq_true (by omega)]; rfl
theorem k31 (l : List Int) (hl : l.length ≤ 60) : ∀ (rest pre : List Int) (n : Nat), l = pre ++ rest → ∃ m, K31_0 (n + rest.length + 1) (l, ((l.length : Int), (pre.length : Int))) = some m ∧ decide (m ≥ 0) = !rest.all okN := by
  intro rest
  induction rest with
  | nil =>
    intro pre n h
    subst h
    refine ⟨-1, ?_, by simp⟩
    show B31_0_2 (K31_0 _) _ = _
    unfold B31_0_2
    simp only [lt_end, cond_false]
  | cons c rest ih =>
    intro pre n h
    obtain ⟨m, h1, h2⟩ := ih (pre ++ [c]) n (by rw [h]; simp)
    subst h
    have hl' : pre.length + (rest.length + 1) ≤ 60 := by simpa using hl
    have st : K31_0 (n + (rest.length + 1) + 1) (pre ++ c :: rest, (((pre ++ c :: rest).length : Int), (pre.length : Int))) = bif !okN c then some (pre.length : Int) else some m := by
      show B31_0_2 (K31_0 (n + (rest.length + 1))) _ = _
      unfold B31_0_2
      simp only [lt_mid, cond_true, rd_mid, bnd', f19, w_mid pre c (by omega)]
      rw [show n + (rest.length + 1) = n + rest.length + 1 by omega, h1]
    rw [List.length_cons, st]
    cases hc : okN c
    · exact ⟨_, rfl, by simp [hc]⟩
    · exact ⟨m, rfl, by rw [h2]; simp [hc]⟩
theorem f31 (l : List Int) (hl : l.length ≤ 60) : ∃ m, F31_0 l = some m ∧ decide (m ≥ 0) = !l.all okN := by
  obtain ⟨n, hn⟩ : ∃ n, 1000 = n + l.length + 1 := ⟨1000 - l.length - 1, by omega⟩
  have := k31 l hl l [] n rfl
  rw [← hn] at this
  exact this
theorem f20 (l : List Int) (hl : l.length ≤ 60) : F20_0 l = some (!l.all okN) := by
  obtain ⟨m, h1, h2⟩ := f31 l hl
  unfold F20_0
  rw [h1, bnd', h2]
theorem f9 (s : Sca) : F9_0 s = some (errOf s) := by
  unfold F9_0 errOf
  by_cases h1 : s.1.length < 1
  · rw [decide_eq_true (by omega), cond_true, if_neg (by omega)]
  · rw [decide_eq_false (by omega), cond_false]
    by_cases h2 : s.1.length > 50
    · rw [decide_eq_true (by omega), cond_true, if_neg (by omega)]
    · rw [decide_eq_false (by omega), cond_false, if_pos (by omega), f19, bnd', f20 _ (by omega), bnd']
      cases okN s.2 <;> cases s.1.all okN <;> rfl
theorem k10 (s : Sca) (hl : s.1.length ≤ 60) : ∀ (rest pre : List Int) (n : Nat) (b : Bool), s.1 = pre ++ rest → K10_0 (n + rest.length + 1) ((b, (pre.length : Int)), s) = some (if b && rest.all okN then 0 else 40) := by
  obtain ⟨l, fa⟩ := s
  intro rest
  induction rest with
  | nil =>
    intro pre n b h
    simp only at h hl
    subst h
    show B10_0_5 (K10_0 _) _ = _
    unfold B10_0_5
    simp only [lt_end, cond_false]
    cases b <;> rfl
  | cons c rest ih =>
    intro pre n b h
    have ih' := fun b => ih (pre ++ [c]) n b (by rw [h]; simp)
    simp only at h hl
    subst h
    have hl' : pre.length + (rest.length + 1) ≤ 60 := by simpa using hl
    show B10_0_5 (K10_0 (n + (rest.length + 1))) _ = _
    unfold B10_0_5
    simp only [lt_mid, cond_true, rd_mid, bnd', w_mid pre c (by omega)]
    rw [show n + (rest.length + 1) = n + rest.length + 1 by omega, ih', ih']
    cases b
    · simp
    · by_cases h0 : 0 ≤ c
      · rw [decide_eq_true (show c ≥ 0 from h0)]
        by_cases h1 : c ≤ 1000
        · rw [decide_eq_true h1]; simp [okN, h0, h1]
        · rw [decide_eq_false h1]; simp [okN, h1]
      · rw [decide_eq_false (show ¬ c ≥ 0 from h0)]; simp [okN, h0]
theorem f10 (s : Sca) : F10_0 s = some (errOf s) := by
  have hk : ∀ b, 1 ≤ s.1.length ∧ s.1.length ≤ 50 → K10_0 1000 ((b, 0), s) = some (if b && s.1.all okN then 0 else 40) := by
    intro b h
    obtain ⟨n, hn⟩ : ∃ n, 1000 = n + s.1.length + 1 := ⟨1000 - s.1.length - 1, by omega⟩
    rw [hn]
    exact k10 s (by omega) s.1 [] n b rfl
  show E10_0 (K10_0 1000) s = _
  unfold E10_0 errOf
  by_cases h1 : s.1.length < 1
  · rw [decide_eq_true (by omega), cond_true, if_neg (by omega)]
  · rw [decide_eq_false (by omega), cond_false]
    by_cases h2 : s.1.length > 50
    · rw [decide_eq_true (by omega), cond_true, if_neg (by omega)]
    · rw [decide_eq_false (by omega), cond_false, if_pos (by omega), hk _ (by omega), hk _ (by omega)]
      by_cases h3 : 0 ≤ s.2
      · rw [decide_eq_true (show s.2 ≥ 0 from h3)]
        by_cases h4 : s.2 ≤ 1000
        · rw [decide_eq_true h4]; simp [okN, h3, h4]
        · rw [decide_eq_false h4]; simp [okN, h4]
      · rw [decide_eq_false (show ¬ s.2 ≥ 0 from h3)]; simp [okN, h3]
theorem good_inv {s : Sca} (h : good s = true) : 1 ≤ s.1.length ∧ s.1.length ≤ 50 ∧ (0 ≤ s.2 ∧ s.2 ≤ 1000) ∧ ∀ x ∈ s.1, 0 ≤ x ∧ x ≤ 1000 := by
  have h0 : errOf s = 0 := eq_of_beq h
  unfold errOf at h0
  split at h0
  · rename_i h1
    split at h0
    · rename_i h2
      simp only [Bool.and_eq_true, List.all_eq_true, okN, decide_eq_true_eq] at h2
      exact ⟨h1.1, h1.2, h2.1, h2.2⟩
    · cases h0
  · cases h0
theorem err_good {s : Sca} : (errOf s == 0) = good s := rfl
theorem err_good' {s : Sca} : (errOf s != 0) = !good s := rfl
/-! ### What a place brings -/
def plc (o : List Int) (c : Int) : Option Nat := o.findIdx? (· == c)
def sc (s : Sca) (r : Rnd) (c : Int) (k : Nat) : Int := s.1.getD k 0 + (if r.2 = c ∧ 0 ≤ c then s.2 else 0)
def pt (s : Sca) (r : Rnd) (c : Int) : Int := match plc r.1 c with | none => 0 | some k => if good s then sc s r c k else 0
theorem getD_bound {s : Sca} (h : good s = true) (k : Nat) : 0 ≤ s.1.getD k 0 ∧ s.1.getD k 0 ≤ 1000 := by
  have := good_inv h
  by_cases hk : k < s.1.length
  · rw [gD_lt hk]; exact this.2.2.2 _ (List.getElem_mem hk)
  · rw [gD_ge (by omega)]; decide
theorem sc_bound {s : Sca} (h : good s = true) (r : Rnd) (c : Int) (k : Nat) : 0 ≤ sc s r c k ∧ sc s r c k ≤ 2000 := by
  have h1 := getD_bound h k; have h2 := (good_inv h).2.2.1
  unfold sc; split <;> omega
theorem pt_bound (s : Sca) (r : Rnd) (c : Int) : 0 ≤ pt s r c ∧ pt s r c ≤ 2000 := by
  unfold pt
  split
  · decide
  · split
    · rename_i h; exact sc_bound h r c _
    · decide
theorem f22 {s : Sca} (h : good s = true) (r : Rnd) (c : Int) (k : Nat) : F22_0 (s, (r, (c, (k : Int)))) = some (sc s r c k) := by
  have h1 := getD_bound h k; have h2 := (good_inv h).2.2.1
  unfold F22_0 sc
  by_cases hk : k < s.1.length
  · rw [gD_lt hk] at h1 ⊢
    rw [decide_eq_true (by simp only []; omega), cond_true]
    simp only [srd hk, bnd']
    by_cases e : r.2 = c
    · by_cases e2 : 0 ≤ c
      · rw [show (r.2 == c) = true from beq_iff_eq.2 e, cond_true, decide_eq_true (show c ≥ 0 from e2), cond_true, if_pos ⟨e, e2⟩, w64 (by omega)]
      · rw [show (r.2 == c) = true from beq_iff_eq.2 e, cond_true, decide_eq_false (show ¬ c ≥ 0 from e2), cond_false, if_neg (fun hh => e2 hh.2)]; simp
    · rw [show (r.2 == c) = false by simpa using e, cond_false, if_neg (fun hh => e hh.1)]; simp
  · rw [gD_ge (by omega)] at h1 ⊢
    rw [decide_eq_false (by simp only []; omega), cond_false]
    simp only []
    by_cases e : r.2 = c
    · by_cases e2 : 0 ≤ c
      · rw [show (r.2 == c) = true from beq_iff_eq.2 e, cond_true, decide_eq_true (show c ≥ 0 from e2), cond_true, if_pos ⟨e, e2⟩, w64 (by omega)]
      · rw [show (r.2 == c) = true from beq_iff_eq.2 e, cond_true, decide_eq_false (show ¬ c ≥ 0 from e2), cond_false, if_neg (fun hh => e2 hh.2)]; rfl
    · rw [show (r.2 == c) = false by simpa using e, cond_false, if_neg (fun hh => e hh.1)]; rfl
def plcI (o : List Int) (c : Int) : Int := match plc o c with | none => -1 | some k => (k : Int)
theorem plc_cons (a : Int) (o : List Int) (c : Int) : plc (a :: o) c = if a = c then some 0 else (plc o c).map (· + 1) := by
  unfold plc
  rw [List.findIdx?_cons]
  by_cases h : a = c <;> simp [h]
theorem k21 (l : List Int) (c : Int) (hl : l.length ≤ 60) : ∀ (rest pre : List Int) (n : Nat), l = pre ++ rest → K21_0 (n + rest.length + 1) (l, (c, ((l.length : Int), (pre.length : Int)))) = some (match plc rest c with | none => -1 | some k => ((pre.length + k : Nat) : Int)) := by
  intro rest
  induction rest with
  | nil =>
    intro pre n h
    subst h
    show B21_0_2 (K21_0 _) _ = _
    unfold B21_0_2
    simp only [lt_end, cond_false]; rfl
  | cons a rest ih =>
    intro pre n h
    have ih' := ih (pre ++ [a]) n (by rw [h]; simp)
    subst h
    have hl' : pre.length + (rest.length + 1) ≤ 60 := by simpa using hl
    show B21_0_2 (K21_0 (n + (rest.length + 1))) _ = _
    unfold B21_0_2
    simp only [lt_mid, cond_true, rd_mid, bnd', w_mid pre a (by omega)]
    rw [show n + (rest.length + 1) = n + rest.length + 1 by omega, ih', plc_cons]
    by_cases e : a = c
    · rw [show (c == a) = true from beq_iff_eq.2 e.symm, cond_true, if_pos e]; rfl
    · rw [show (c == a) = false by simpa using fun h => e h.symm, cond_false, if_neg e]
      cases plc rest c with
      | none => rfl
      | some k => simp only [Option.map_some, List.length_append, List.length_cons, List.length_nil]; congr 2; omega
theorem f21 (l : List Int) (c : Int) (hl : l.length ≤ 60) : F21_0 (l, c) = some (plcI l c) := by
  obtain ⟨n, hn⟩ : ∃ n, 1000 = n + l.length + 1 := ⟨1000 - l.length - 1, by omega⟩
  have := k21 l c hl l [] n rfl
  rw [← hn] at this
  refine this.trans ?_
  unfold plcI
  cases plc l c <;> simp
theorem k23 (l : List Int) (fa c : Int) (hl : l.length ≤ 60) : ∀ (rest pre : List Int) (n : Nat), l = pre ++ rest → K23_0 (n + rest.length + 1) ((c, (pre.length : Int)), (l, fa)) = some (match plc rest c with | none => -1 | some k => ((pre.length + k : Nat) : Int)) := by
  intro rest
  induction rest with
  | nil =>
    intro pre n h
    subst h
    show B23_0_2 (K23_0 _) _ = _
    unfold B23_0_2
    simp only [lt_end, cond_false]; rfl
  | cons a rest ih =>
    intro pre n h
    have ih' := ih (pre ++ [a]) n (by rw [h]; simp)
    subst h
    have hl' : pre.length + (rest.length + 1) ≤ 60 := by simpa using hl
    show B23_0_2 (K23_0 (n + (rest.length + 1))) _ = _
    unfold B23_0_2
    simp only [lt_mid, cond_true, rd_mid, bnd', w_mid pre a (by omega)]
    rw [show n + (rest.length + 1) = n + rest.length + 1 by omega, ih', plc_cons]
    by_cases e : a = c
    · rw [show (a == c) = true from beq_iff_eq.2 e, cond_true, if_pos e]; rfl
    · rw [show (a == c) = false by simpa using e, cond_false, if_neg e]
      cases plc rest c with
      | none => rfl
      | some k => simp only [Option.map_some, List.length_append, List.length_cons, List.length_nil]; congr 2; omega
theorem f23 (r : Rnd) (c : Int) (hl : r.1.length ≤ 60) : F23_0 (r, c) = some (plcI r.1 c) := by
  obtain ⟨n, hn⟩ : ∃ n, 1000 = n + r.1.length + 1 := ⟨1000 - r.1.length - 1, by omega⟩
  have := k23 r.1 r.2 c hl r.1 [] n rfl
  rw [← hn] at this
  refine this.trans ?_
  unfold plcI
  cases plc r.1 c <;> simp
theorem f11 (s : Sca) (r : Rnd) (c : Int) (hl : r.1.length ≤ 60) : F11_0 (s, (r, c)) = some (pt s r c) := by
  unfold F11_0
  simp only [f21 _ _ hl, bnd', f9, err_good', plcI, pt]
  cases plc r.1 c with
  | none => rfl
  | some k =>
    simp only []
    rw [decide_eq_false (by omega), cond_false]
    cases hg : good s with
    | false => rfl
    | true => simp only [Bool.not_true, cond_false, f22 hg, bnd', if_true]
theorem f12 (s : Sca) (r : Rnd) (c : Int) (hl : r.1.length ≤ 60) : F12_0 (s, (r, c)) = some (pt s r c) := by
  unfold F12_0
  simp only [f23 _ _ hl, bnd', f10, err_good', plcI, pt]
  cases plc r.1 c with
  | none => rfl
  | some k =>
    simp only []
    rw [decide_eq_false (by omega), cond_false]
    cases hg : good s with
    | false => rfl
    | true =>
      have h1 := getD_bound hg k; have h2 := (good_inv hg).2.2.1
      simp only [Bool.not_true, cond_false, if_true, sc]
      by_cases hk : k < s.1.length
      · rw [gD_lt hk] at h1 ⊢
        rw [decide_eq_true (by omega), cond_true]
        simp only [srd hk, bnd']
        by_cases e2 : 0 ≤ r.2
        · rw [decide_eq_true (show r.2 ≥ 0 from e2), cond_true]
          by_cases e : r.2 = c
          · rw [show (r.2 == c) = true from beq_iff_eq.2 e, cond_true, if_pos ⟨e, e ▸ e2⟩, w64 (by omega)]
          · rw [show (r.2 == c) = false by simpa using e, cond_false, if_neg (fun hh => e hh.1)]; simp
        · rw [decide_eq_false (show ¬ r.2 ≥ 0 from e2), cond_false, if_neg (fun hh : r.2 = c ∧ 0 ≤ c => e2 (by rw [hh.1]; exact hh.2))]; simp
      · rw [gD_ge (by omega)] at h1 ⊢
        rw [decide_eq_false (by omega), cond_false]
        by_cases e2 : 0 ≤ r.2
        · rw [decide_eq_true (show r.2 ≥ 0 from e2), cond_true]
          by_cases e : r.2 = c
          · rw [show (r.2 == c) = true from beq_iff_eq.2 e, cond_true, if_pos ⟨e, e ▸ e2⟩, w64 (by omega)]
          · rw [show (r.2 == c) = false by simpa using e, cond_false, if_neg (fun hh => e hh.1)]; rfl
        · rw [decide_eq_false (show ¬ r.2 ≥ 0 from e2), cond_false, if_neg (fun hh : r.2 = c ∧ 0 ≤ c => e2 (by rw [hh.1]; exact hh.2))]; rfl
end Go.Proofs.Ytemdppcnhlnicaa.Ev
