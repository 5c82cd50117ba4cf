/- Chapter 41: samples come back from their bytes, and bytes from their samples: all channels. -/
import Derived.Test.YtfhhpfhmplgndaaMBack
set_option linter.unusedVariables false
set_option linter.unusedSimpArgs false
namespace Go.Proofs.Ytfhhpfhmplgndaa.Ev
open Go

def zS : Smp := (0, (0, (0, (0, (0, (0, (0, 0)))))))
def setc (x : Smp) (c : Nat) (v : Int) : Smp := ((if c = 0 then v else x.1), ((if c = 1 then v else x.2.1), ((if c = 2 then v else x.2.2.1), ((if c = 3 then v else x.2.2.2.1), ((if c = 4 then v else x.2.2.2.2.1), ((if c = 5 then v else x.2.2.2.2.2.1), ((if c = 6 then v else x.2.2.2.2.2.2.1), (if c = 7 then v else x.2.2.2.2.2.2.2))))))))
theorem getc_setc (x : Smp) (v : Int) {c d : Nat} (hc : c < 8) (hd : d < 8) : getc (setc x c v) d = if d = c then v else getc x d := by
  obtain ⟨x0, x1, x2, x3, x4, x5, x6, x7⟩ := x
  have hc' : c = 0 ∨ c = 1 ∨ c = 2 ∨ c = 3 ∨ c = 4 ∨ c = 5 ∨ c = 6 ∨ c = 7 := by omega
  have hd' : d = 0 ∨ d = 1 ∨ d = 2 ∨ d = 3 ∨ d = 4 ∨ d = 5 ∨ d = 6 ∨ d = 7 := by omega
  rcases hc' with rfl | rfl | rfl | rfl | rfl | rfl | rfl | rfl <;> rcases hd' with rfl | rfl | rfl | rfl | rfl | rfl | rfl | rfl <;> rfl
theorem smp_ext {x y : Smp} (h : ∀ c, c < 8 → getc x c = getc y c) : x = y := by
  obtain ⟨x0, x1, x2, x3, x4, x5, x6, x7⟩ := x
  obtain ⟨y0, y1, y2, y3, y4, y5, y6, y7⟩ := y
  have h0 : x0 = y0 := h 0 (by omega)
  have h1 : x1 = y1 := h 1 (by omega)
  have h2 : x2 = y2 := h 2 (by omega)
  have h3 : x3 = y3 := h 3 (by omega)
  have h4 : x4 = y4 := h 4 (by omega)
  have h5 : x5 = y5 := h 5 (by omega)
  have h6 : x6 = y6 := h 6 (by omega)
  have h7 : x7 = y7 := h 7 (by omega)
  subst h0 h1 h2 h3 h4 h5 h6 h7
  rfl
/-! ### A channel alone -/
def dB : Int → List Int → List Int
  | _, [] => []
  | last, x :: r => vb 9 (zz (IntKind.wrap .i64 (x - last))) ++ dB x r
def col (c : Nat) (l : List Smp) : List Int := l.map fun x => getc x c
theorem colB_dB (c : Nat) : ∀ (l : List Smp) (last : Int), colB c last l = dB last (col c l) := by
  intro l
  induction l with
  | nil => intro last; rfl
  | cons x l ih => intro last; simp only [colB, col, List.map_cons, dB]; rw [ih]; rfl
def lastD (last : Int) : List Int → Int
  | [] => last
  | x :: r => lastD x r
theorem lastD_snoc : ∀ (l : List Int) (a x : Int), lastD a (l ++ [x]) = x := by
  intro l
  induction l with
  | nil => intro a x; rfl
  | cons y l ih => intro a x; simp only [List.cons_append, lastD]; exact ih y x
theorem dB_snoc : ∀ (l : List Int) (a x : Int), dB a (l ++ [x]) = dB a l ++ vb 9 (zz (IntKind.wrap .i64 (x - lastD a l))) := by
  intro l
  induction l with
  | nil => intro a x; simp [dB, lastD]
  | cons y l ih => intro a x; simp only [List.cons_append, dB, lastD, ih, List.append_assoc]
theorem col_set (l : List Smp) (k : Nat) (hk : k < l.length) (v : Int) {c d : Nat} (hc : c < 8) (hd : d < 8) :
    col d (l.set k (setc (l[k]) c v)) = if d = c then (col d l).set k v else col d l := by
  unfold col
  rw [List.map_set, getc_setc _ _ hc hd]
  split
  · rfl
  · rw [show getc l[k] d = (l.map fun x => getc x d)[k]'(by simpa using hk) by simp, List.set_getElem_self]
theorem take_set_snoc {α : Type} (xs : List α) (k : Nat) (hk : k < xs.length) (v : α) : (xs.set k v).take (k + 1) = xs.take k ++ [v] := by
  rw [List.take_add_one, List.take_set_of_le (Nat.le_refl k), List.getElem?_set_self hk]
  rfl
def preC (out : List Smp) : Nat → List Int
  | 0 => []
  | c + 1 => preC out c ++ dB 0 (col c out)
theorem preC_congr {a b : List Smp} : ∀ c, (∀ d, d < c → col d a = col d b) → preC a c = preC b c := by
  intro c
  induction c with
  | zero => intro _; rfl
  | succ c ih => intro h; simp only [preC]; rw [ih fun d hd => h d (by omega), h c (by omega)]
theorem allB_pre (l : List Smp) : allB l 8 0 = preC l 8 := by
  simp only [allB, preC, colB_dB, List.nil_append, List.append_assoc, List.append_nil]
/-! ### Unpack -/
theorem upK1 (n : Nat) (v) : (K23_0 (n + 1)).1 v = B23_0_12 (K23_0 n) v := rfl
theorem upK2 (n : Nat) (v) : (K23_0 (n + 1)).2 v = B23_0_16 (K23_0 n) v := rfl
theorem up_out (f : Nat) (all : List Int) (n : Int) (c : Nat) (hc : c < 8) (out : List Smp) (rd : List Int × Int × Int × Int) :
    (K23_0 (f + 1)).1 ((all, (n, (c : Int))), (out, rd)) = (K23_0 f).2 ((all, (n, ((c : Int), (0, (((0 : Nat) : Int), (c : Int)))))), (out, rd)) := by
  rw [upK1]
  unfold B23_0_12
  rw [decide_eq_true (show (c : Int) < 8 by omega), cond_true]
  rfl
theorem up_end (f : Nat) (all : List Int) (n : Int) (out : List Smp) (p e a : Int) :
    (K23_0 (f + 1)).1 ((all, (n, ((8 : Nat) : Int))), (out, (all, (p, (e, a))))) = some (if e ≠ 0 then ((e, a), []) else if p < all.length then ((23, p), []) else ((0, 0), out)) := by
  rw [upK1]
  unfold B23_0_12
  rw [decide_eq_false (show ¬ (((8 : Nat) : Int)) < 8 by decide), cond_false]
  by_cases h : e = 0
  · rw [if_neg (by simp [h])]
    simp only [h, bne_self_eq_false, cond_false]
    by_cases h2 : p < (all.length : Int)
    · rw [if_pos h2, decide_eq_true h2, cond_true]
    · rw [if_neg h2, decide_eq_false h2, cond_false]
  · rw [if_pos h]
    simp only [bne_iff_ne.2 h, cond_true]
theorem up_next (f : Nat) (all : List Int) (n : Int) (c k : Nat) (hc : c < 8) (last : Int) (out : List Smp) (p e a : Int) (h : ¬ ((k : Int) < n ∧ e = 0)) :
    (K23_0 (f + 1)).2 ((all, (n, ((c : Int), (last, ((k : Int), (c : Int)))))), (out, (all, (p, (e, a))))) = (K23_0 f).1 ((all, (n, ((c + 1 : Nat) : Int))), (out, (all, (p, (e, a))))) := by
  rw [upK2]
  unfold B23_0_16
  simp only [wi64 (show -9223372036854775808 ≤ (c : Int) + 1 ∧ (c : Int) + 1 ≤ 9223372036854775807 by omega)]
  by_cases h1 : (k : Int) < n
  · rw [decide_eq_true h1, cond_true]
    have h2 : e ≠ 0 := fun he => h ⟨h1, he⟩
    simp only [beq_eq_false_iff_ne.2 h2, cond_false]
    rfl
  · rw [decide_eq_false h1, cond_false]
    rfl
/-- A number is read, and put where there is room. -/
theorem up_read (f : Nat) (all : List Int) (n : Int) (c k : Nat) (hc : c < 8) (hk0 : k ≤ 100000000) (last : Int) (out : List Smp) (p a d q e' a' : Int) (hk : (k : Int) < n) (hr : F51_0 (all, (p, (0, a))) = some (d, (all, (q, (e', a'))))) :
    (K23_0 (f + 1)).2 ((all, (n, ((c : Int), (last, ((k : Int), (c : Int)))))), (out, (all, (p, (0, a))))) =
      (K23_0 f).2 ((all, (n, ((c : Int), (IntKind.wrap .i64 (last + d), (((k + 1 : Nat) : Int), (c : Int)))))), ((if h : k < out.length then out.set k (setc out[k] c (IntKind.wrap .i64 (last + d))) else out), (all, (q, (e', a'))))) := by
  rw [upK2]
  unfold B23_0_16
  rw [decide_eq_true hk, cond_true]
  simp only [beq_self_eq_true, cond_true, hr, Option.bind_some, wi64 (show -9223372036854775808 ≤ (k : Int) + 1 ∧ (k : Int) + 1 ≤ 9223372036854775807 by omega)]
  by_cases h : k < out.length
  · rw [dif_pos h, decide_eq_true (show (k : Int) < (out.length : Int) by omega), cond_true, tidx h, tidx hc, Option.bind_some, Option.bind_some, List.getElem?_eq_getElem h, Option.bind_some]
    rfl
  · rw [dif_neg h, decide_eq_false (show ¬ (k : Int) < (out.length : Int) by omega), cond_false]
    rfl
/-- Once there is an error, it stays. -/
theorem up_err (all : List Int) (n : Int) {e : Int} (he : e ≠ 0) (a p : Int) (out : List Smp) : ∀ (m c f : Nat), c + m = 8 → 2 * m + 1 ≤ f → (K23_0 f).1 ((all, (n, (c : Int))), (out, (all, (p, (e, a))))) = some ((e, a), []) := by
  intro m
  induction m with
  | zero =>
    intro c f hc hf
    obtain ⟨f, rfl⟩ : ∃ q, f = q + 1 := ⟨f - 1, by omega⟩
    obtain rfl : c = 8 := by omega
    rw [up_end, if_pos he]
  | succ m ih =>
    intro c f hc hf
    obtain ⟨f, rfl⟩ : ∃ q, f = q + 1 + 1 := ⟨f - 2, by omega⟩
    rw [up_out _ _ _ _ (by omega), up_next _ _ _ _ _ (by omega) _ _ _ _ _ (fun h => he h.2)]
    exact ih (c + 1) f (by omega) (by omega)
theorem up_err2 (all : List Int) (n : Int) {e : Int} (he : e ≠ 0) (a p last : Int) (k : Nat) (out : List Smp) (c f : Nat) (hc : c < 8) (hf : 2 * (8 - c) + 1 ≤ f) :
    (K23_0 f).2 ((all, (n, ((c : Int), (last, ((k : Int), (c : Int)))))), (out, (all, (p, (e, a))))) = some ((e, a), []) := by
  obtain ⟨f, rfl⟩ : ∃ q, f = q + 1 := ⟨f - 1, by omega⟩
  rw [up_next _ _ _ _ _ hc _ _ _ _ _ (fun h => he h.2)]
  exact up_err all n he a p out (8 - (c + 1)) (c + 1) f (by omega) (by omega)
/-- What has been read so far is what the samples so far would be packed to. -/
structure Read (all hd : List Int) (n : Nat) (c k p : Nat) (last : Int) (out : List Smp) : Prop where
  p1 : 12 + k ≤ p
  p2 : p ≤ all.length
  n1 : c ≠ 0 → 12 + n ≤ p
  len : out.length = min all.length n
  tk : all.take p = hd ++ (preC out c ++ dB 0 ((col c out).take k))
  ls : last = lastD 0 ((col c out).take k)
theorem wrap_back (a d : Int) (h : I64 d) : IntKind.wrap .i64 (IntKind.wrap .i64 (a + d) - a) = d := by
  unfold I64 at h
  rw [IntKind.wrap_i64, IntKind.wrap_i64]
  omega
theorem up_res {all : List Int} (hb : Bytes all) (hl : all.length ≤ 100000000) (hd : List Int) (n : Nat) (hn : n ≤ 16777216) : ∀ (f : Nat),
    (∀ (c p : Nat) (out : List Smp), c ≤ 8 → (all.length - p) + 2 * (8 - c) + 4 ≤ f → Read all hd n c 0 p 0 out →
      ∃ r, (K23_0 f).1 ((all, ((n : Int), (c : Int))), (out, (all, ((p : Int), (0, 0))))) = some r ∧ ((r.1.1 ≠ 0 ∧ r.2 = [] ∧ 0 ≤ r.1.2 ∧ r.1.2 ≤ all.length) ∨ (r.1 = (0, 0) ∧ r.2.length = min all.length n ∧ 12 + n ≤ all.length ∧ all = hd ++ preC r.2 8))) ∧
    (∀ (c k p : Nat) (last : Int) (out : List Smp), c < 8 → k ≤ n → (all.length - p) + 2 * (8 - c) + 3 ≤ f → Read all hd n c k p last out →
      ∃ r, (K23_0 f).2 ((all, ((n : Int), ((c : Int), (last, ((k : Int), (c : Int)))))), (out, (all, ((p : Int), (0, 0))))) = some r ∧ ((r.1.1 ≠ 0 ∧ r.2 = [] ∧ 0 ≤ r.1.2 ∧ r.1.2 ≤ all.length) ∨ (r.1 = (0, 0) ∧ r.2.length = min all.length n ∧ 12 + n ≤ all.length ∧ all = hd ++ preC r.2 8))) := by
  intro f
  induction f with
  | zero => exact ⟨fun c p out _ h => by omega, fun c k p last out _ _ h => by omega⟩
  | succ f ih =>
    refine ⟨fun c p out hc hf R => ?_, fun c k p last out hc hk hf R => ?_⟩
    · by_cases h8 : c < 8
      · rw [up_out _ _ _ _ h8]
        exact ih.2 c 0 p 0 out h8 (by omega) (by omega) R
      · obtain rfl : c = 8 := by omega
        rw [up_end, if_neg (by simp)]
        by_cases hp : (p : Int) < (all.length : Int)
        · rw [if_pos hp]
          exact ⟨_, rfl, .inl ⟨show (23 : Int) ≠ 0 by decide, rfl, show (0 : Int) ≤ (p : Int) by omega, show (p : Int) ≤ (all.length : Int) by omega⟩⟩
        · rw [if_neg hp]
          have h1 := R.p2
          have h2 := R.n1 (by decide)
          have h3 := R.tk
          rw [List.take_of_length_le (by omega)] at h3
          refine ⟨_, rfl, .inr ⟨rfl, R.len, by omega, ?_⟩⟩
          simpa [dB] using h3
    · have h1 := R.p1
      have h2 := R.p2
      by_cases hkn : k < n
      · have hrd := rd_short hb hl p h2 0
        cases hdc : dcS 10 false (all.drop p) with
        | none =>
          rw [hdc] at hrd
          obtain ⟨q, e, a, g1, g2, g3, g4, g5, g6⟩ := hrd
          rw [up_read f all n c k hc (by omega) last out p 0 0 q e a (by omega) g1]
          rw [up_err2 all n g2 a q _ _ _ c f hc (by omega)]
          exact ⟨_, rfl, .inl ⟨g2, rfl, g5, g6⟩⟩
        | some r =>
          rw [hdc] at hrd
          simp only [] at hrd
          obtain ⟨v1, v2, _, v4, v5, v6⟩ := dcS_vb 9 false (all.drop p) r.1 r.2 (fun x hx => hb x (List.mem_of_mem_drop hx)) hdc
          rw [List.length_drop] at v2
          have hu : U64 r.1 := by unfold U64; simp at v5; omega
          rw [up_read f all n c k hc (by omega) last out p 0 (uz r.1) _ 0 0 (by omega) hrd]
          have hko : k < out.length := by rw [R.len]; omega
          rw [dif_pos hko]
          obtain ⟨v, hv⟩ : ∃ v, v = IntKind.wrap .i64 (last + uz r.1) := ⟨_, rfl⟩
          rw [← hv]
          have hcol : ∀ d, d < 8 → col d (out.set k (setc out[k] c v)) = if d = c then (col d out).set k v else col d out := fun d hd8 => col_set out k hko v hc hd8
          refine ih.2 c (k + 1) (p + r.2) v (out.set k (setc out[k] c v)) hc (by omega) (by omega) ⟨by omega, by omega, fun h0 => by have := R.n1 h0; omega, by rw [List.length_set]; exact R.len, ?_, ?_⟩
          · have e1 : preC (out.set k (setc out[k] c v)) c = preC out c := preC_congr c fun d hd8 => by rw [hcol d (by omega), if_neg (by omega)]
            have e2 : (col c (out.set k (setc out[k] c v))).take (k + 1) = (col c out).take k ++ [v] := by
              rw [hcol c hc, if_pos rfl]
              exact take_set_snoc _ k (by unfold col; simpa using hko) v
            rw [e1, e2, dB_snoc, List.take_add, R.tk, v6, ← R.ls]
            have e3 : zz (IntKind.wrap .i64 (v - last)) = r.1 := by
              rw [hv, wrap_back last _ (uz_i64 hu), zz_uz v4]
            rw [e3]
            simp only [List.append_assoc]
          · rw [hcol c hc, if_pos rfl, take_set_snoc _ k (by unfold col; simpa using hko) v, lastD_snoc]
      · rw [up_next _ _ _ _ _ hc _ _ _ _ _ (fun h => hkn (by omega))]
        refine ih.1 (c + 1) p out (by omega) (by omega) ⟨by omega, h2, fun _ => by omega, R.len, ?_, rfl⟩
        rw [R.tk]
        have hol : (col c out).length ≤ k := by unfold col; rw [List.length_map, R.len]; omega
        rw [List.take_of_length_le hol]
        simp [preC, dB]
/-! ### There and back -/
theorem up_good {l : List Smp} (hl : l.length ≤ 200) {all : List Int} (hb : Bytes all) (hla : all.length ≤ 100000000) : ∀ (d k f c p : Nat) (last : Int) (out : List Smp), c < 8 → k + d = l.length → p ≤ all.length → out.length = l.length →
    last = lastD 0 ((col c l).take k) → all.drop p = colB c last (l.drop k) ++ allB l (7 - c) (c + 1) → (∀ j, j < c → col j out = col j l) → (col c out).take k = (col c l).take k →
    (∀ x ∈ l, ∀ c, c < 8 → I64 (getc x c)) →
    ∃ (out' : List Smp) (p' : Nat), (K23_0 (f + d + 1)).2 ((all, ((l.length : Int), ((c : Int), (last, ((k : Int), (c : Int)))))), (out, (all, ((p : Int), (0, 0))))) = (K23_0 f).1 ((all, ((l.length : Int), ((c + 1 : Nat) : Int))), (out', (all, ((p' : Int), (0, 0))))) ∧
      p' ≤ all.length ∧ out'.length = l.length ∧ all.drop p' = allB l (7 - c) (c + 1) ∧ (∀ j, j < c + 1 → col j out' = col j l) := by
  intro d
  induction d with
  | zero =>
    intro k f c p last out hc hk hp ho hls htk hpre hcur h64
    rw [Nat.add_zero, up_next _ _ _ _ _ hc _ _ _ _ _ (fun h => by omega)]
    refine ⟨out, p, rfl, hp, ho, ?_, fun j hj => ?_⟩
    · rw [htk, List.drop_eq_nil_of_le (by omega)]; rfl
    · by_cases hjc : j < c
      · exact hpre j hjc
      · obtain rfl : j = c := by omega
        rw [List.take_of_length_le (by unfold col; simp; omega), List.take_of_length_le (by unfold col; simp; omega)] at hcur
        exact hcur
  | succ d ih =>
    intro k f c p last out hc hk hp ho hls htk hpre hcur h64
    have hkl : k < l.length := by omega
    have hko : k < out.length := by omega
    rw [List.drop_eq_getElem_cons hkl] at htk
    simp only [colB, List.append_assoc] at htk
    have hx := h64 l[k] (List.getElem_mem hkl) c hc
    have hw := wrap_i64_i64 (getc l[k] c - last)
    have hz := zz_u64 hw
    have hrd := rd_short hb hla p hp 0
    rw [htk, dcS_go 9 false _ _ hz.1 (by unfold U64 at hz; simp; omega) (by simp)] at hrd
    simp only [uz_zz] at hrd
    rw [show f + (d + 1) + 1 = (f + d + 1) + 1 by omega, up_read _ all _ c k hc (by omega) last out p 0 _ _ 0 0 (by omega) hrd, dif_pos hko]
    have hv : IntKind.wrap .i64 (last + IntKind.wrap .i64 (getc l[k] c - last)) = getc l[k] c := by
      unfold I64 at hx
      rw [IntKind.wrap_i64, IntKind.wrap_i64]
      omega
    rw [hv]
    have hcol : ∀ j, j < 8 → col j (out.set k (setc out[k] c (getc l[k] c))) = if j = c then (col j out).set k (getc l[k] c) else col j out := fun j hj => col_set out k hko _ hc hj
    have hlen : (vb 9 (zz (IntKind.wrap .i64 (getc l[k] c - last)))).length ≤ all.length - p := by
      have := congrArg List.length htk
      rw [List.length_drop, List.length_append] at this
      omega
    have hck : (col c l).take (k + 1) = (col c l).take k ++ [getc l[k] c] := by
      rw [List.take_add_one]
      unfold col
      rw [List.getElem?_map, List.getElem?_eq_getElem hkl]
      rfl
    exact ih (k + 1) f c (p + (vb 9 (zz (IntKind.wrap .i64 (getc l[k] c - last)))).length) (getc l[k] c) _ hc (by omega) (by omega) (by rw [List.length_set]; exact ho)
      (by rw [hck, lastD_snoc]) (by rw [← List.drop_drop, htk, List.drop_left]) (fun j hj => by rw [hcol j (by omega), if_neg (by omega)]; exact hpre j hj)
      (by rw [hcol c hc, if_pos rfl, take_set_snoc _ k (by unfold col; simpa using hko), hcur, hck]) h64
theorem up_all {l : List Smp} (hl : l.length ≤ 200) {all : List Int} (hb : Bytes all) (hla : all.length ≤ 100000000) (h64 : ∀ x ∈ l, ∀ c, c < 8 → I64 (getc x c)) : ∀ (e c f p : Nat) (out : List Smp), c + e = 8 → e * (l.length + 2) < f → p ≤ all.length → out.length = l.length →
    all.drop p = allB l e c → (∀ j, j < c → col j out = col j l) →
    (K23_0 f).1 ((all, ((l.length : Int), (c : Int))), (out, (all, ((p : Int), (0, 0))))) = some ((0, 0), l) := by
  intro e
  induction e with
  | zero =>
    intro c f p out hc hf hp ho htk hpre
    obtain ⟨f, rfl⟩ : ∃ m, f = m + 1 := ⟨f - 1, by omega⟩
    obtain rfl : c = 8 := by omega
    rw [up_end, if_neg (by simp)]
    have : all.length ≤ p := by
      have := congrArg List.length htk
      rw [List.length_drop] at this
      simp [allB] at this
      omega
    rw [if_neg (by omega)]
    have : out = l := by
      apply List.ext_getElem ho
      intro i h1 h2
      refine smp_ext fun c hc => ?_
      have := congrArg (fun x : List Int => x[i]?) (hpre c hc)
      simp only [col, List.getElem?_map, List.getElem?_eq_getElem h1, List.getElem?_eq_getElem h2, Option.map_some, Option.some.injEq] at this
      exact this
    rw [this]
  | succ e ih =>
    intro c f p out hc hf hp ho htk hpre
    rw [Nat.succ_mul] at hf
    obtain ⟨f, rfl⟩ : ∃ m, f = m + l.length + 1 + 1 := ⟨f - l.length - 2, by omega⟩
    rw [up_out _ _ _ _ (by omega)]
    have he : 7 - c = e := by omega
    obtain ⟨out', p', g1, g2, g3, g4, g5⟩ := up_good hl hb hla l.length 0 f c p 0 out (by omega) (by omega) hp ho rfl (by rw [List.drop_zero, he]; exact htk) hpre rfl h64
    rw [g1]
    rw [he] at g4
    exact ih (c + 1) f p' out' (by omega) (by omega) g2 g3 g4 g5
theorem wd_appT (b : List Int) : b.take 4 ++ wdS b 4 8 = b.take 12 := by
  unfold wdS
  rw [show (12 : Nat) = 4 + 8 from rfl, List.take_add]
/-- What is read first. -/
def hdP (b : List Int) : Int × RS := numS (b.take 12) (markS (b.take 12) mkT (0, (0, (0, 0))))
theorem up_E {b : List Int} (hb : Bytes b) (hl : b.length ≤ 100000) :
    (∃ e a, F23_0 b = some ((e, a), []) ∧ e ≠ 0 ∧ 0 ≤ a ∧ a ≤ b.length ∧ ¬ (12 ≤ b.length ∧ b.take 4 = mkT ∧ 0 ≤ IntKind.wrap .i64 (leV (wdS b 4 8)) ∧ IntKind.wrap .i64 (leV (wdS b 4 8)) ≤ 16777216)) ∨
    ∃ n : Nat, n ≤ 16777216 ∧ 12 ≤ b.length ∧ b.take 4 = mkT ∧ (n : Int) = IntKind.wrap .i64 (leV (wdS b 4 8)) ∧
      F23_0 b = (K23_0 8000).1 ((b, ((n : Int), ((0 : Nat) : Int))), (List.replicate (min b.length n) zS, (b, (12, (0, 0))))) := by
  have hL : (b.take 12).length = min 12 b.length := by simp
  have hbT : Bytes (b.take 12) := fun x hx => hb x (List.mem_of_mem_take hx)
  have h0 : SOk (b.take 12).length ((0, (0, (0, 0))) : RS) := by unfold SOk; simp only []; omega
  have h1 := markS_ok (mk := mkT) h0
  have h2 := numS_ok h1
  have hwd : ∀ p n, p + n ≤ 12 → wdS (b.take 12) p n = wdS b p n := by
    intro p n hpn
    unfold wdS
    rw [List.drop_take, List.take_take]
    congr 1
    omega
  have hx : (if (12 : Int) < (b.length : Int) then (12 : Int) else (b.length : Int)) = ((b.take 12).length : Int) := by rw [hL]; split <;> omega
  have hcut : cutx b 0 ((b.take 12).length : Int) = some (b.take 12) := by
    unfold cutx
    rw [decide_eq_true (by omega)]
    simp only [Int.toNat_natCast, Int.toNat_zero, List.drop_zero]
    rw [hL]
    rcases Nat.le_total 12 b.length with h | h
    · rw [Nat.min_eq_left h]
    · rw [Nat.min_eq_right h, List.take_of_length_le (Nat.le_refl _), List.take_of_length_le h]
  have hnew : F46_0 (b.take 12) = some ((0, (0, (0, 0))), b.take 12) := by
    unfold F46_0
    rw [tclone_eq (by omega)]; rfl
  unfold F23_0 E23_0
  simp only [hx, hcut, Option.bind_some, hnew, mark_eq h0 markedT]
  rw [show ([67, 72, 84, 76] : List Int) = mkT from rfl, num_eq hbT h1, Option.bind_some]
  have hP : numS (b.take 12) (markS (b.take 12) mkT (0, (0, (0, 0)))) = hdP b := rfl
  rw [hP]
  rw [hP] at h2
  have hgood : (hdP b).2.2.2.1 = 0 → 12 ≤ b.length ∧ b.take 4 = mkT ∧ (hdP b).1 = IntKind.wrap .i64 (leV (wdS b 4 8)) ∧ (hdP b).2.1 = 12 := by
    intro h
    rw [← hP] at h ⊢
    obtain ⟨n1, n2, n3, n4⟩ := numS_in h1 h
    obtain ⟨m1, m2, m3, m4⟩ := markS_in h0 n1
    rw [m4] at n2 n3 n4 ⊢
    simp only [] at n2 n3 n4 m2 m3
    rw [n4]
    refine ⟨by omega, ?_, ?_, rfl⟩
    · have : wdS (b.take 12) 0 4 = mkT := m3
      rw [hwd 0 4 (by omega)] at this
      exact this
    · refine n3.trans ?_
      rw [show ((0 : Int) + 4).toNat = 4 from rfl, hwd 4 8 (by omega)]
  have hbad : ¬ (hdP b).2.2.2.1 = 0 → ¬ (12 ≤ b.length ∧ b.take 4 = mkT ∧ 0 ≤ IntKind.wrap .i64 (leV (wdS b 4 8)) ∧ IntKind.wrap .i64 (leV (wdS b 4 8)) ≤ 16777216) := by
    rintro h ⟨g1, g2, _, _⟩
    apply h
    rw [← hP]
    have e4 : wdS (b.take 12) 0 4 = mkT := by rw [hwd 0 4 (by omega)]; exact g2
    have q1 := markS_go (all := b.take 12) (s := (0, (0, (0, 0)))) rfl (by rw [hL]; simp only []; omega) e4
    rw [q1]
    have q2 := numS_go (all := b.take 12) (s := (0 + 4, (0, (0, 0)))) rfl (by rw [hL]; simp only []; omega)
    rw [q2]
  generalize hdP b = P at h2 hgood hbad ⊢
  have hend : ∀ s : RS, SOk (b.take 12).length s → s.2.2.1 ≠ 0 → endS0 ((b.take 12).length : Int) s = s := by
    intro s hs he
    unfold endS0
    split
    · unfold failS; rw [if_neg he]
    · rfl
  have bad : ∀ s : RS, SOk (b.take 12).length s → s.2.2.1 ≠ 0 → ¬ (12 ≤ b.length ∧ b.take 4 = mkT ∧ 0 ≤ IntKind.wrap .i64 (leV (wdS b 4 8)) ∧ IntKind.wrap .i64 (leV (wdS b 4 8)) ≤ 16777216) → ∀ (Y : Option ((Int × Int) × List Smp)),
      ∃ e a, ((F50_0 (s, b.take 12)).bind fun r => bif r.1.1 != 0 then some (r.1, ([] : List Smp)) else Y) = some ((e, a), []) ∧ e ≠ 0 ∧ 0 ≤ a ∧ a ≤ b.length ∧ ¬ (12 ≤ b.length ∧ b.take 4 = mkT ∧ 0 ≤ IntKind.wrap .i64 (leV (wdS b 4 8)) ∧ IntKind.wrap .i64 (leV (wdS b 4 8)) ≤ 16777216) := by
    intro s hs he hno Y
    rw [end_eq, Option.bind_some, hend s hs he]
    simp only [bne_iff_ne.2 he, cond_true]
    unfold SOk at hs
    exact ⟨_, _, rfl, he, hs.2.2.2.2.1, Int.le_trans hs.2.2.2.2.2.1 (by rw [hL]; omega), hno⟩
  simp only [refuse_eq (show (22 : Int) ≠ 0 by decide), Option.bind_some]
  have hf := failS_ok (e := 22) (at_ := P.2.2.1) h2 (by unfold SOk at h2; omega)
  by_cases c1 : P.1 < 0
  · rw [decide_eq_true c1, cond_true]
    refine .inl (bad _ hf (failS_err (by decide) _) ?_ _)
    intro hall
    by_cases hz : P.2.2.2.1 = 0
    · have := (hgood hz).2.2.1
      omega
    · exact hbad hz hall
  · rw [decide_eq_false c1, cond_false]
    by_cases c2 : P.1 > 16777216
    · rw [decide_eq_true c2, cond_true]
      refine .inl (bad _ hf (failS_err (by decide) _) ?_ _)
      intro hall
      by_cases hz : P.2.2.2.1 = 0
      · have := (hgood hz).2.2.1
        omega
      · exact hbad hz hall
    · rw [decide_eq_false c2, cond_false]
      by_cases hz : P.2.2.2.1 = 0
      · obtain ⟨g1, g2, g3, g4⟩ := hgood hz
        refine .inr ⟨P.1.toNat, by omega, g1, g2, by omega, ?_⟩
        have he : endS0 ((b.take 12).length : Int) P.2 = P.2 := by
          unfold endS0
          rw [if_neg (by rw [g4, hL]; omega)]
        rw [end_eq, Option.bind_some, he]
        simp only [hz, bne_self_eq_false, cond_false]
        have hmin : (if (b.length : Int) < P.1 then (b.length : Int) else P.1) = ((min b.length P.1.toNat : Nat) : Int) := by split <;> omega
        simp only [hmin]
        refine (chkT (by omega) _).trans ?_
        rw [Int.toNat_natCast, Int.toNat_of_nonneg (by omega)]
        rfl
      · exact .inl (bad _ h2 hz (hbad hz) _)
theorem vb_bytes : ∀ (k : Nat) (u : Int), 0 ≤ u → u < 128 ^ k * 2 → Bytes (vb k u) := by
  intro k
  induction k with
  | zero => intro u h0 h1 x hx; simp [vb] at hx; simp at h1; omega
  | succ k ih =>
    intro u h0 h1 x hx
    rw [Int.pow_succ] at h1
    have hp : (0 : Int) < 128 ^ k := Int.pow_pos (by decide)
    simp only [vb] at hx
    split at hx
    · rcases List.mem_cons.1 hx with rfl | hx
      · omega
      · exact ih (u / 128) (by omega) (by generalize (128 : Int) ^ k = y at h1 hp ⊢; omega) x hx
    · rw [List.mem_singleton.1 hx]; omega
theorem colB_bytes (c : Nat) : ∀ (l : List Smp) (last : Int), Bytes (colB c last l) := by
  intro l
  induction l with
  | nil => intro last x hx; simp [colB] at hx
  | cons y l ih =>
    intro last x hx
    simp only [colB] at hx
    rcases List.mem_append.1 hx with hx | hx
    · have hz := zz_u64 (wrap_i64_i64 (getc y c - last))
      unfold U64 at hz
      exact vb_bytes 9 _ hz.1 (by simp; omega) x hx
    · exact ih _ x hx
theorem allB_bytes (l : List Smp) : ∀ (e c : Nat), Bytes (allB l e c) := by
  intro e
  induction e with
  | zero => intro c x hx; simp [allB] at hx
  | succ e ih =>
    intro c x hx
    simp only [allB] at hx
    rcases List.mem_append.1 hx with hx | hx
    · exact colB_bytes c l 0 x hx
    · exact ih _ x hx
theorem mkT_bytes : Bytes mkT := by intro x hx; simp [mkT] at hx; omega
theorem packS_bytes (l : List Smp) : Bytes (packS l) := by
  intro x hx
  rcases List.mem_append.1 hx with hx | hx
  · rcases List.mem_append.1 hx with hx | hx
    · exact mkT_bytes x hx
    · exact leB_bytes 8 _ x hx
  · exact allB_bytes l 8 0 x hx
theorem col_zero (c n : Nat) (l : List Smp) : (col c (List.replicate n zS)).take 0 = (col c l).take 0 := by simp
theorem unpack_pack {l : List Smp} (hl : l.length ≤ 200) (h64 : ∀ x ∈ l, ∀ c, c < 8 → I64 (getc x c)) : F23_0 (packS l) = some ((0, 0), l) := by
  have hlen : (packS l).length ≤ 16012 := by
    have := allB_len l 8 0
    unfold packS
    rw [List.length_append, headT_len]; omega
  have hge : 12 ≤ (packS l).length := by unfold packS; rw [List.length_append, headT_len]; omega
  have hw8 : wdS (packS l) 4 8 = leB 8 (IntKind.wrap .u64 (l.length : Int)) := by unfold wdS packS headT; rfl
  have hV : IntKind.wrap .i64 (leV (wdS (packS l) 4 8)) = (l.length : Int) := by
    rw [hw8, wrap_u64 (show U64 (l.length : Int) by unfold U64; omega), leV_leB 8 _ (by omega) (by simp; omega), wi64 (by omega)]
  rcases up_E (packS_bytes l) (by omega) with ⟨e, a, _, _, _, _, h⟩ | ⟨n, _, _, _, h4, h5⟩
  · exact absurd ⟨hge, rfl, by rw [hV]; omega, by rw [hV]; omega⟩ h
  · rw [hV] at h4
    obtain rfl : n = l.length := by omega
    rw [h5]
    have hm : min (packS l).length l.length = l.length := by
      have : l.length ≤ (allB l 8 0).length := by
        have hc : ∀ (l : List Smp) (last : Int), l.length ≤ (colB 0 last l).length := by
          intro l
          induction l with
          | nil => intro last; simp
          | cons x l ih =>
            intro last
            have h1 := (vb_len 9 (zz (IntKind.wrap .i64 (getc x 0 - last)))).1
            have h2 := ih (getc x 0)
            simp only [colB, List.length_append, List.length_cons]
            omega
        have := hc l 0
        rw [show allB l 8 0 = colB 0 0 l ++ allB l 7 1 from rfl, List.length_append]
        omega
      unfold packS
      rw [List.length_append, headT_len]; omega
    rw [hm]
    refine up_all hl (packS_bytes l) (by omega) h64 8 0 8000 12 _ (by omega) (by omega) hge (by simp) ?_ (fun j hj => by omega)
    unfold packS
    rw [show (12 : Nat) = (headT l.length).length by rw [headT_len], List.drop_left]
theorem unpack_res {b : List Int} (hb : Bytes b) (hl : b.length ≤ 5000) : ∃ r, F23_0 b = some r ∧ ((r.1.1 ≠ 0 ∧ r.2 = [] ∧ 0 ≤ r.1.2 ∧ r.1.2 ≤ b.length) ∨ (r.1 = (0, 0) ∧ b = packS r.2 ∧ r.2.length ≤ 700)) := by
  rcases up_E hb (by omega) with ⟨e, a, h1, h2, h3, h4, _⟩ | ⟨n, h1, h2, h3, h4, h5⟩
  · exact ⟨_, h1, .inl ⟨h2, rfl, h3, h4⟩⟩
  · obtain ⟨r, g1, g2⟩ := (up_res hb (by omega) (b.take 12) n h1 8000).1 0 12 (List.replicate (min b.length n) zS) (by omega) (by omega) ⟨by omega, h2, fun h => absurd rfl h, by simp, by simp [preC, dB], by simp [lastD]⟩
    refine ⟨r, h5.trans g1, ?_⟩
    rcases g2 with g2 | ⟨g2, g3, g4, g5⟩
    · exact .inl g2
    · have hrl : r.2.length = n := by omega
      have hv := leV_bound (wdS b 4 8) (wdS_bytes hb _ _)
      rw [wdS_len (by omega)] at hv
      have hw : IntKind.wrap .u64 (r.2.length : Int) = leV (wdS b 4 8) := by
        rw [hrl, h4]
        generalize leV (wdS b 4 8) = x at hv
        rw [IntKind.wrap_i64, IntKind.wrap_u64]
        simp at hv
        omega
      have hh : headT r.2.length = b.take 12 := by
        unfold headT
        rw [hw]
        have e8 := leB_leV (wdS b 4 8) (wdS_bytes hb _ _)
        rw [wdS_len (by omega)] at e8
        rw [e8, ← h3]
        exact (wd_appT b)
      have hpk : b = packS r.2 := by
        unfold packS
        rw [hh, allB_pre]
        exact g5
      refine .inr ⟨g2, hpk, ?_⟩
      have : 8 * r.2.length ≤ (allB r.2 8 0).length := by
        have hc : ∀ (c : Nat) (l : List Smp) (last : Int), l.length ≤ (colB c last l).length := by
          intro c l
          induction l with
          | nil => intro last; simp
          | cons x l ih =>
            intro last
            have h1 := (vb_len 9 (zz (IntKind.wrap .i64 (getc x c - last)))).1
            have h2 := ih (getc x c)
            simp only [colB, List.length_append, List.length_cons]
            omega
        have k0 := hc 0 r.2 0
        have k1 := hc 1 r.2 0
        have k2 := hc 2 r.2 0
        have k3 := hc 3 r.2 0
        have k4 := hc 4 r.2 0
        have k5 := hc 5 r.2 0
        have k6 := hc 6 r.2 0
        have k7 := hc 7 r.2 0
        rw [show allB r.2 8 0 = colB 0 0 r.2 ++ (colB 1 0 r.2 ++ (colB 2 0 r.2 ++ (colB 3 0 r.2 ++ (colB 4 0 r.2 ++ (colB 5 0 r.2 ++ (colB 6 0 r.2 ++ (colB 7 0 r.2 ++ []))))))) from rfl]
        simp only [List.length_append, List.length_nil]
        omega
      have h9 := congrArg List.length hpk
      unfold packS at h9
      rw [List.length_append, headT_len] at h9
      omega
theorem sameTK (n : Nat) (v) : K24_0 (n + 1) v = B24_0_4 (K24_0 n) v := rfl
theorem sameT_go (l : List Smp) : ∀ (d i n : Nat), d < n → i + d = l.length → l.length ≤ 500 → K24_0 n (l, (l, (i : Int))) = some true := by
  intro d
  induction d with
  | zero =>
    intro i n hn hi hl
    obtain ⟨n, rfl⟩ : ∃ m, n = m + 1 := ⟨n - 1, by omega⟩
    rw [sameTK]
    unfold B24_0_4
    rw [decide_eq_false (by simp only []; omega), cond_false]
  | succ d ih =>
    intro i n hn hi hl
    obtain ⟨n, rfl⟩ : ∃ m, n = m + 1 := ⟨n - 1, by omega⟩
    have hil : i < l.length := by omega
    rw [sameTK]
    unfold B24_0_4
    rw [decide_eq_true (show (i : Int) < (l.length : Int) by omega), cond_true]
    simp only [trdx hil, Option.bind_some, beq_self_eq_true, Bool.and_true, Bool.not_true, cond_false, wi64 (show -9223372036854775808 ≤ ((i : Int) + 1) ∧ ((i : Int) + 1) ≤ 9223372036854775807 by omega)]
    have := ih (i + 1) n (by omega) (by omega) hl
    rw [show ((i + 1 : Nat) : Int) = (i : Int) + 1 by omega] at this
    exact this
theorem sameT_eq {l : List Smp} (h : l.length ≤ 500) : F24_0 (l, l) = some true := by
  unfold F24_0 E24_0
  simp only [bne_self_eq_false, cond_false]
  exact sameT_go l l.length 0 1000 (by omega) (by omega) h
theorem law8_0 (v) (h : Dom8_0 v) : F8_0 v = some true := by
  obtain ⟨l, b⟩ := v
  obtain ⟨⟨_, h1⟩, _, h2⟩ := h
  unfold F8_0
  by_cases hl : (l.length : Int) > 200
  · rw [decide_eq_true hl]; rfl
  · rw [decide_eq_false hl, cond_false]
    by_cases hb : (b.length : Int) > 5000
    · rw [decide_eq_true hb]; rfl
    · rw [decide_eq_false hb, cond_false]
      have h64 : ∀ x ∈ l, ∀ c, c < 8 → I64 (getc x c) := by
        intro x hx c hc
        have i64 : ∀ {n : Int}, (Lit.int .i64 n).wf = true → I64 n := by
          intro n hn
          have : IntKind.i64.min ≤ n ∧ n ≤ IntKind.i64.max := by simpa [Lit.wf] using hn
          exact this
        obtain ⟨a0, a1, a2, a3, a4, a5, a6, a7⟩ := h1 x hx
        have hc' : c = 0 ∨ c = 1 ∨ c = 2 ∨ c = 3 ∨ c = 4 ∨ c = 5 ∨ c = 6 ∨ c = 7 := by omega
        rcases hc' with rfl | rfl | rfl | rfl | rfl | rfl | rfl | rfl
        · exact i64 a0
        · exact i64 a1
        · exact i64 a2
        · exact i64 a3
        · exact i64 a4
        · exact i64 a5
        · exact i64 a6
        · exact i64 a7
      have hB : Bytes b := by
        intro x hx
        have : IntKind.u8.min ≤ x ∧ x ≤ IntKind.u8.max := by simpa [Lit.wf] using h2 x hx
        exact this
      rw [pack_eq (show l.length ≤ 900 by omega), Option.bind_some, unpack_pack (by omega) h64, Option.bind_some]
      simp only [bne_self_eq_false, cond_false, plain_eq (show l.length ≤ 900 by omega), sameT_eq (show l.length ≤ 500 by omega), Option.bind_some, Bool.not_true]
      obtain ⟨r, g1, g2⟩ := unpack_res hB (by omega)
      rw [g1, Option.bind_some]
      rcases g2 with ⟨q1, q2, q3, q4⟩ | ⟨q1, q2, q3⟩
      · rw [bne_iff_ne.2 q1, cond_true, q2]
        simp only [List.length_nil]
        rw [show (((0 : Nat) : Int) == 0) = true from rfl, cond_true, decide_eq_true (show r.1.2 ≥ 0 from q3), cond_true, decide_eq_true q4, cond_true, awakeT]
        rfl
      · rw [q1]
        simp only [bne_self_eq_false, cond_false]
        rw [pack_eq (show r.2.length ≤ 900 by omega), Option.bind_some, ← q2]
        rw [show strOf (E.enc 5) b = some _ from strOf_ints _ (fun _ => rfl) _]
        simp only [Option.bind_some, str_beq, decide_true, cond_true, awakeT]
end Go.Proofs.Ytfhhpfhmplgndaa.Ev
