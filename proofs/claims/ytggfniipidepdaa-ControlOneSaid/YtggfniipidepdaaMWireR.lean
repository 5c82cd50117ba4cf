/- Bytes, word by word: what the program reads and what the document reads. -/
import Derived.Test.YtggfniipidepdaaMWire
set_option linter.unusedVariables false
set_option linter.unusedSimpArgs false
namespace Go.Proofs.Ytggfniipidepdaa.Ev
open Go

theorem or_comm64 (x y : Int) : bits .or .u64 x y = bits .or .u64 y x := by simp only [bits, BitVec.or_comm]
/-- All are bytes. -/
def Bytes (b : List Int) : Prop := ∀ x ∈ b, 0 ≤ x ∧ x ≤ 255
/-- The number of some bytes, the lowest first. -/
def leV : List Int → Int
  | [] => 0
  | x :: r => x + 256 * leV r
theorem leV_bound : ∀ (l : List Int), Bytes l → 0 ≤ leV l ∧ leV l < 2 ^ (8 * l.length) := by
  intro l
  induction l with
  | nil => intro _; exact ⟨by simp [leV], by simp [leV]⟩
  | cons x l ih =>
    intro h
    have h1 := h x (List.mem_cons_self ..)
    have h2 := ih fun y hy => h y (List.mem_cons_of_mem _ hy)
    have e : (2 : Int) ^ (8 * (x :: l).length) = 256 * 2 ^ (8 * l.length) := by
      rw [List.length_cons, Nat.mul_add, Int.pow_add]
      generalize (2 : Int) ^ (8 * l.length) = z
      rw [show (2 : Int) ^ (8 * 1) = 256 by decide]; omega
    rw [e]
    simp only [leV]
    generalize (2 : Int) ^ (8 * l.length) = z at h2
    omega
theorem leB_leV : ∀ (l : List Int), Bytes l → leB l.length (leV l) = l := by
  intro l
  induction l with
  | nil => intro _; rfl
  | cons x l ih =>
    intro h
    have h1 := h x (List.mem_cons_self ..)
    have h2 := ih fun y hy => h y (List.mem_cons_of_mem _ hy)
    simp only [List.length_cons, leB, leV]
    rw [show (x + 256 * leV l) % 256 = x by omega, show (x + 256 * leV l) / 256 = leV l by omega, h2]
theorem leV_leB : ∀ (k : Nat) (n : Int), 0 ≤ n → n < 2 ^ (8 * k) → leV (leB k n) = n := by
  intro k
  induction k with
  | zero => intro n h0 h1; simp only [leB, leV]; simp at h1; omega
  | succ k ih =>
    intro n h0 h1
    have e : (2 : Int) ^ (8 * (k + 1)) = 256 * 2 ^ (8 * k) := by
      rw [Nat.mul_add, Int.pow_add]
      generalize (2 : Int) ^ (8 * k) = z
      rw [show (2 : Int) ^ (8 * 1) = 256 by decide]; omega
    rw [e] at h1
    simp only [leB, leV]
    rw [ih (n / 256) (by omega) (by generalize (2 : Int) ^ (8 * k) = z at h1 ⊢; omega)]
    omega
theorem leB_bytes : ∀ (k : Nat) (n : Int), Bytes (leB k n) := by
  intro k
  induction k with
  | zero => intro n x hx; simp [leB] at hx
  | succ k ih =>
    intro n x hx
    simp only [leB, List.mem_cons] at hx
    rcases hx with rfl | hx
    · omega
    · exact ih _ x hx
/-! ### Strings -/
theorem str_beq (x y : List UInt8) : ((⟨x.toArray⟩ : ByteArray) == (⟨y.toArray⟩ : ByteArray)) = decide (x = y) := by
  have e : ((⟨x.toArray⟩ : ByteArray) == (⟨y.toArray⟩ : ByteArray)) = (x.toArray == y.toArray) := rfl
  rw [e]
  by_cases h : x = y
  · subst h; simp
  · rw [decide_eq_false h, beq_eq_false_iff_ne]
    intro e
    exact h (by simpa using congrArg Array.toList e)
theorem u8_inj : ∀ {x y : List Int}, Bytes x → Bytes y → (x.map (fun n => UInt8.ofNat n.toNat) = y.map (fun n => UInt8.ofNat n.toNat) ↔ x = y) := by
  intro x
  induction x with
  | nil => intro y _ _; cases y <;> simp
  | cons a x ih =>
    intro y hx hy
    cases y with
    | nil => simp
    | cons b y =>
      have h1 := hx a (List.mem_cons_self ..)
      have h2 := hy b (List.mem_cons_self ..)
      have h3 := ih (y := y) (fun z hz => hx z (List.mem_cons_of_mem _ hz)) (fun z hz => hy z (List.mem_cons_of_mem _ hz))
      simp only [List.map_cons, List.cons.injEq, h3]
      constructor
      · rintro ⟨e, h⟩
        refine ⟨?_, h⟩
        have := congrArg UInt8.toNat e
        simp only [UInt8.toNat_ofNat'] at this
        omega
      · rintro ⟨rfl, h⟩
        exact ⟨rfl, h⟩
/-! ### Words of bytes -/
theorem fromK (n : Nat) (v) : K53_0 (n + 1) v = B53_0_3 (K53_0 n) v := rfl
theorem from_go (xs : List Int) (hb : Bytes xs) (hl : xs.length ≤ 8) : ∀ (d i n : Nat) (acc : Int), d < n → i + d = xs.length → 0 ≤ acc → acc < 2 ^ (8 * i) → K53_0 n (acc, (xs, ((xs.length : Int), (i : Int)))) = some (acc + 2 ^ (8 * i) * leV (xs.drop i)) := by
  intro d
  induction d with
  | zero =>
    intro i n acc hn hi h0 h1
    obtain ⟨n, rfl⟩ : ∃ m, n = m + 1 := ⟨n - 1, by omega⟩
    rw [fromK]
    unfold B53_0_3
    rw [decide_eq_false (by simp; omega), cond_false, List.drop_eq_nil_of_le (by omega)]
    simp [leV]
  | succ d ih =>
    intro i n acc hn hi h0 h1
    obtain ⟨n, rfl⟩ : ∃ m, n = m + 1 := ⟨n - 1, by omega⟩
    have hil : i < xs.length := by omega
    have hx := hb xs[i] (List.getElem_mem hil)
    rw [fromK]
    unfold B53_0_3
    rw [decide_eq_true (show ((i : Int)) < (xs.length : Int) by omega), cond_true]
    have hr : rdx xs (i : Int) = some xs[i] := by
      unfold rdx
      rw [decide_eq_true (by omega)]
      simp [List.getElem?_eq_getElem hil]
    simp only [hr, Option.bind_some, wi64 (show -9223372036854775808 ≤ ((8 : Int) * (i : Int)) ∧ ((8 : Int) * (i : Int)) ≤ 9223372036854775807 by omega),
      wi64 (show -9223372036854775808 ≤ ((i : Int) + 1) ∧ ((i : Int) + 1) ≤ 9223372036854775807 by omega)]
    rw [chkT (show (0 : Int) ≤ 8 * (i : Int) by omega)]
    have e1 : ((8 : Int) * (i : Int)).toNat = 8 * i := by omega
    have e2 : min (8 * i) 64 = 8 * i := by omega
    rw [e1, e2, wrap_u64 (show U64 xs[i] by unfold U64; omega)]
    have hp : (0 : Int) < 2 ^ (8 * i) := Int.pow_pos (by decide)
    have hp2 : (2 : Int) ^ (8 * i) * 256 ≤ 18446744073709551616 := by
      have : (2 : Int) ^ (8 * i) * 256 = 2 ^ (8 * (i + 1)) := by rw [Nat.mul_add, Int.pow_add]; rfl
      rw [this]
      have h8 : (2 : Nat) ^ (8 * (i + 1)) ≤ 2 ^ 64 := Nat.pow_le_pow_right (by decide) (by omega)
      have h9 : ((2 ^ (8 * (i + 1)) : Nat) : Int) ≤ ((2 ^ 64 : Nat) : Int) := Int.ofNat_le.2 h8
      simpa using h9
    have hs : 0 ≤ xs[i] * 2 ^ (8 * i) ∧ xs[i] * 2 ^ (8 * i) ≤ 255 * 2 ^ (8 * i) := ⟨Int.mul_nonneg hx.1 (Int.le_of_lt hp), Int.mul_le_mul_of_nonneg_right hx.2 (Int.le_of_lt hp)⟩
    rw [wrap_u64 (show U64 (xs[i] * 2 ^ (8 * i)) by unfold U64; omega), or_comm64,
      u64_join (8 * i) (by unfold U64; omega) (Int.mul_emod_left _ _) h0 h1 (by unfold U64; omega)]
    have e3 : (2 : Int) ^ (8 * (i + 1)) = 2 ^ (8 * i) * 256 := by rw [Nat.mul_add, Int.pow_add]; rfl
    have := ih (i + 1) n (xs[i] * 2 ^ (8 * i) + acc) (by omega) (by omega) (by omega) (by rw [e3]; omega)
    rw [show ((i + 1 : Nat) : Int) = (i : Int) + 1 by omega] at this
    rw [this, List.drop_eq_getElem_cons hil, leV, e3]
    congr 1
    rw [Int.mul_add, Int.mul_comm xs[i], Int.mul_assoc]
    omega
theorem from_eq {xs : List Int} (hb : Bytes xs) (hl : xs.length ≤ 8) : F53_0 xs = some (leV xs) := by
  have := from_go xs hb hl xs.length 0 1000 0 (by omega) (by omega) (by omega) (by simp)
  rw [List.drop_zero] at this
  refine Eq.trans ?_ (this.trans ?_)
  · rfl
  · simp
/-! ### What is read -/
abbrev RS : Type := Int × Int × Int × Int
def SOk (L : Int) (s : RS) : Prop := 0 ≤ s.1 ∧ s.1 ≤ L ∧ 0 ≤ s.2.1 ∧ s.2.1 ≤ L ∧ 0 ≤ s.2.2.2 ∧ s.2.2.2 ≤ L ∧ L ≤ 100000000
def failS (e at_ : Int) (s : RS) : RS := if s.2.2.1 = 0 then (s.1, (s.2.1, (e, at_))) else s
def wordS (L n : Int) (s : RS) : RS ⊕ RS := if s.2.2.1 ≠ 0 then .inl s else if n > L - s.1 then .inl (failS 20 L s) else .inr (s.1 + n, (s.1, s.2.2))
def wdS (all : List Int) (p n : Nat) : List Int := (all.drop p).take n
theorem fail_eq (e at_ : Int) (s : RS) (all : List Int) : F52_0 ((e, at_), (s, all)) = some (failS e at_ s, all) := by
  unfold F52_0 failS
  by_cases h : s.2.2.1 = 0
  · rw [if_pos h]; simp only [h]; rfl
  · rw [if_neg h]; simp only [beq_eq_false_iff_ne.2 h]; rfl
theorem rfail_eq (e at_ : Int) (s : RS) (all : List Int) : F57_0 ((e, at_), (all, s)) = some (all, failS e at_ s) := by
  unfold F57_0 failS
  by_cases h : s.2.2.1 = 0
  · rw [if_pos h]; simp only [h]; rfl
  · rw [if_neg h]; simp only [beq_eq_false_iff_ne.2 h]; rfl
theorem word_eq {all : List Int} {s : RS} (hs : SOk all.length s) (n : Int) (h0 : 0 ≤ n) (h1 : n ≤ 1000) :
    F51_0 (n, (s, all)) = some (match wordS all.length n s with | .inl t => .inl (t, all) | .inr t => .inr ((s.1.toNat, n.toNat), (t, all))) := by
  unfold SOk at hs
  unfold F51_0 wordS
  by_cases h : s.2.2.1 = 0
  · rw [if_neg (by simp [h])]
    simp only [h, bne_self_eq_false, cond_false, wi64 (show -9223372036854775808 ≤ ((all.length : Int) - s.1) ∧ ((all.length : Int) - s.1) ≤ 9223372036854775807 by omega)]
    by_cases h2 : n > (all.length : Int) - s.1
    · rw [if_pos h2, decide_eq_true h2, cond_true, fail_eq]; rfl
    · rw [if_neg h2, decide_eq_false h2, cond_false]
      simp only [wi64 (show -9223372036854775808 ≤ (s.1 + n) ∧ (s.1 + n) ≤ 9223372036854775807 by omega)]
      rw [show (chk (decide True)) = some () from rfl, Option.bind_some]
      have e : cutn s.1 (s.1 + n) (all.length : Int) = some (s.1.toNat, n.toNat) := by
        unfold cutn
        rw [decide_eq_true (by omega)]
        simp only [Option.some.injEq, Prod.mk.injEq, true_and]
        congr 1; omega
      rw [e]; rfl
  · rw [if_pos h]
    simp only [bne_iff_ne.2 h, cond_true]
theorem rword_eq {all : List Int} {s : RS} (hs : SOk all.length s) (n : Int) (h0 : 0 ≤ n) (h1 : n ≤ 1000) :
    F56_0 (n, (all, s)) = some (match wordS all.length n s with | .inl t => (([], false), (all, t)) | .inr t => ((wdS all s.1.toNat n.toNat, true), (all, t))) := by
  unfold SOk at hs
  unfold F56_0 wordS
  by_cases h : s.2.2.1 = 0
  · rw [if_neg (by simp [h])]
    simp only [h, bne_self_eq_false, cond_false, wi64 (show -9223372036854775808 ≤ ((all.length : Int) - s.1) ∧ ((all.length : Int) - s.1) ≤ 9223372036854775807 by omega)]
    by_cases h2 : n > (all.length : Int) - s.1
    · rw [if_pos h2, decide_eq_true (show (all.length : Int) - s.1 < n from h2), cond_true, rfail_eq]; rfl
    · rw [if_neg h2, decide_eq_false (show ¬ (all.length : Int) - s.1 < n by omega), cond_false]
      simp only [wi64 (show -9223372036854775808 ≤ (s.1 + n) ∧ (s.1 + n) ≤ 9223372036854775807 by omega)]
      have e : cutx all s.1 (s.1 + n) = some (wdS all s.1.toNat n.toNat) := by
        unfold cutx wdS
        rw [decide_eq_true (by omega)]
        simp only []
        rw [List.drop_take, show (s.1 + n).toNat - s.1.toNat = n.toNat by omega]
      rw [e]; rfl
  · rw [if_pos h]
    simp only [bne_iff_ne.2 h, cond_true]
theorem wordS_ok {L n : Int} {s t : RS} (hs : SOk L s) (h0 : 0 ≤ n) (h : wordS L n s = .inr t) : s.2.2.1 = 0 ∧ s.1 + n ≤ L ∧ t = (s.1 + n, (s.1, s.2.2)) ∧ SOk L t := by
  unfold wordS at h
  split at h
  · cases h
  · split at h
    · cases h
    · simp only [Sum.inr.injEq] at h
      subst h
      rename_i h1 h2
      have e : s.2.2.1 = 0 := by simpa using h1
      exact ⟨e, by omega, rfl, by unfold SOk at hs ⊢; simp only []; omega⟩
theorem failS_ok {L e at_ : Int} {s : RS} (hs : SOk L s) (h : 0 ≤ at_ ∧ at_ ≤ L) : SOk L (failS e at_ s) := by
  unfold failS
  split
  · unfold SOk at hs ⊢; simp only []; omega
  · exact hs
theorem failS_err {e at_ : Int} (he : e ≠ 0) (s : RS) : (failS e at_ s).2.2.1 ≠ 0 := by
  unfold failS
  split
  · exact he
  · assumption
theorem wordS_fail {L n : Int} {s t : RS} (hs : SOk L s) (h : wordS L n s = .inl t) : t.2.2.1 ≠ 0 ∧ SOk L t := by
  unfold wordS at h
  split at h
  · simp only [Sum.inl.injEq] at h; subst h; rename_i h1; exact ⟨h1, hs⟩
  · split at h
    · simp only [Sum.inl.injEq] at h; subst h
      exact ⟨failS_err (by decide) _, failS_ok hs (by unfold SOk at hs; omega)⟩
    · cases h
theorem wdS_len {all : List Int} {p n : Nat} (h : p + n ≤ all.length) : (wdS all p n).length = n := by unfold wdS; simp; omega
theorem wdS_bytes {all : List Int} (h : Bytes all) (p n : Nat) : Bytes (wdS all p n) := fun x hx => h x (List.mem_of_mem_drop (List.mem_of_mem_take hx))
theorem wdS_get {all : List Int} {p n : Nat} (h : p + n ≤ all.length) (j : Nat) (hj : j < n) : (wdS all p n)[j]? = all[p + j]? := by
  unfold wdS; rw [List.getElem?_take, if_pos hj, List.getElem?_drop]
/-! ### Numbers, counts, flags, marks -/
def numS (all : List Int) (s : RS) : Int × RS := match wordS all.length 8 s with
  | .inl t => (0, t)
  | .inr t => (IntKind.wrap .i64 (leV (wdS all s.1.toNat 8)), t)
def countS (all : List Int) (lo hi : Int) (s : RS) : Int × RS := match wordS all.length 2 s with
  | .inl t => (0, t)
  | .inr t => if leV (wdS all s.1.toNat 2) < lo ∨ leV (wdS all s.1.toNat 2) > hi then (0, failS 22 t.2.1 t) else (leV (wdS all s.1.toNat 2), t)
def flagS (all : List Int) (s : RS) : Bool × RS := match wordS all.length 1 s with
  | .inl t => (false, t)
  | .inr t => if all.getD s.1.toNat 0 > 1 then (false, failS 24 t.2.1 t) else (all.getD s.1.toNat 0 == 1, t)
def markS (all mk : List Int) (s : RS) : RS := match wordS all.length 4 s with
  | .inl t => t
  | .inr t => if wdS all s.1.toNat 4 = mk then t else failS 21 t.2.1 t
def endS0 (L : Int) (s : RS) : RS := if s.1 < L then failS 23 s.1 s else s

theorem num_eq {all : List Int} {s : RS} (hb : Bytes all) (hs : SOk all.length s) : F31_0 (s, all) = some ((numS all s).1, ((numS all s).2, all)) := by
  unfold F31_0 numS
  rw [word_eq hs 8 (by omega) (by omega), Option.bind_some]
  cases h : wordS all.length 8 s with
  | inl t => rfl
  | inr t =>
    obtain ⟨h1, h2, _, _⟩ := wordS_ok hs (by omega) h
    have hp : s.1.toNat + 8 ≤ all.length := by unfold SOk at hs; omega
    simp only []
    rw [chkT (by decide)]
    rw [show ((all.drop s.1.toNat).take (8 : Int).toNat) = wdS all s.1.toNat 8 from rfl, from_eq (wdS_bytes hb _ _) (by rw [wdS_len hp]; omega)]
    rfl
theorem count_eq {all : List Int} {s : RS} (hb : Bytes all) (hs : SOk all.length s) (lo hi : Int) : F54_0 ((lo, hi), (s, all)) = some ((countS all lo hi s).1, ((countS all lo hi s).2, all)) := by
  unfold F54_0 countS
  rw [word_eq hs 2 (by omega) (by omega), Option.bind_some]
  cases h : wordS all.length 2 s with
  | inl t => rfl
  | inr t =>
    obtain ⟨h1, h2, _, _⟩ := wordS_ok hs (by omega) h
    have hp : s.1.toNat + 2 ≤ all.length := by unfold SOk at hs; omega
    simp only []
    rw [chkT (by decide)]
    have hw := leV_bound (wdS all s.1.toNat 2) (wdS_bytes hb _ _)
    rw [wdS_len hp] at hw
    rw [show ((all.drop s.1.toNat).take (2 : Int).toNat) = wdS all s.1.toNat 2 from rfl, from_eq (wdS_bytes hb _ _) (by rw [wdS_len hp]; omega), Option.bind_some]
    generalize leV (wdS all s.1.toNat 2) = x at hw ⊢
    simp only [wi64 (show -9223372036854775808 ≤ x ∧ x ≤ 9223372036854775807 by omega), fail_eq, Option.bind_some]
    by_cases c1 : x < lo
    · rw [decide_eq_true c1, cond_true, if_pos (.inl c1)]
    · rw [decide_eq_false c1, cond_false]
      by_cases c2 : x > hi
      · rw [decide_eq_true c2, cond_true, if_pos (.inr c2)]
      · rw [decide_eq_false c2, cond_false, if_neg (by omega)]
theorem getD_mem {l : List Int} {p : Nat} (h : p < l.length) : l.getD p 0 ∈ l := by simp [List.getD, List.getElem?_eq_getElem h]
theorem getD_at {l : List Int} {p : Nat} (h : p < l.length) : l[p]? = some (l.getD p 0) := by simp [List.getD, List.getElem?_eq_getElem h]
theorem flag_eq {all : List Int} {s : RS} (hs : SOk all.length s) : F55_0 (s, all) = some ((flagS all s).1, ((flagS all s).2, all)) := by
  unfold F55_0 flagS
  rw [word_eq hs 1 (by omega) (by omega), Option.bind_some]
  cases h : wordS all.length 1 s with
  | inl t => rfl
  | inr t =>
    obtain ⟨h1, h2, _, _⟩ := wordS_ok hs (by omega) h
    have hp : s.1.toNat < all.length := by unfold SOk at hs; omega
    simp only []
    rw [chkT (by decide), show idx 0 (1 : Int).toNat = some 0 from rfl]
    simp only [Option.bind_some, Nat.add_zero, getD_at hp]
    generalize all.getD s.1.toNat 0 = x
    rw [chkT (by decide)]
    by_cases c : x > 1
    · rw [decide_eq_true c, cond_true, if_pos c, fail_eq]; rfl
    · rw [decide_eq_false c, cond_false, if_neg c]
theorem rd_wd {all : List Int} {p n : Nat} (h : p + n ≤ all.length) (j : Nat) (hj : j < n) : rdx (wdS all p n) (j : Int) = some (all.getD (p + j) 0) := by
  unfold rdx
  rw [decide_eq_true (by omega)]
  simp only [Int.toNat_natCast]
  rw [wdS_get h j hj, getD_at (by omega)]
theorem rflagr_eq {all : List Int} {s : RS} (hs : SOk all.length s) : F40_0 (all, s) = some ((flagS all s).1, (all, (flagS all s).2)) := by
  unfold F40_0 flagS
  rw [rword_eq hs 1 (by omega) (by omega), Option.bind_some]
  cases h : wordS all.length 1 s with
  | inl t => rfl
  | inr t =>
    obtain ⟨h1, h2, _, _⟩ := wordS_ok hs (by omega) h
    have hp : s.1.toNat + 1 ≤ all.length := by unfold SOk at hs; omega
    have hr := rd_wd hp 0 (by omega)
    simp only [Bool.not_true, cond_false]
    rw [show (((0 : Nat) : Int)) = 0 from rfl] at hr
    rw [show (1 : Int).toNat = 1 from rfl, hr]
    simp only [Option.bind_some, Nat.add_zero]
    generalize all.getD s.1.toNat 0 = x
    by_cases c : x > 1
    · rw [decide_eq_true c, cond_true, if_pos c, rfail_eq]; rfl
    · rw [decide_eq_false c, cond_false, if_neg c]
theorem wd2 {all : List Int} {p : Nat} (h : p + 2 ≤ all.length) : wdS all p 2 = [all.getD p 0, all.getD (p + 1) 0] := by
  apply List.ext_getElem?
  intro j
  match j with
  | 0 => rw [wdS_get h 0 (by omega), Nat.add_zero, getD_at (by omega)]; rfl
  | 1 => rw [wdS_get h 1 (by omega), getD_at (by omega)]; rfl
  | j + 2 => rw [List.getElem?_eq_none (by rw [wdS_len h]; omega), List.getElem?_eq_none (by simp)]
theorem rcountr_eq {all : List Int} {s : RS} (hb : Bytes all) (hs : SOk all.length s) (lo hi : Int) : F39_0 ((lo, hi), (all, s)) = some ((countS all lo hi s).1, (all, (countS all lo hi s).2)) := by
  unfold F39_0 countS
  rw [rword_eq hs 2 (by omega) (by omega), Option.bind_some]
  cases h : wordS all.length 2 s with
  | inl t => rfl
  | inr t =>
    obtain ⟨h1, h2, _, _⟩ := wordS_ok hs (by omega) h
    have hp : s.1.toNat + 2 ≤ all.length := by unfold SOk at hs; omega
    have hr0 := rd_wd hp 0 (by omega)
    have hr1 := rd_wd hp 1 (by omega)
    simp only [Bool.not_true, cond_false]
    rw [show (((0 : Nat) : Int)) = 0 from rfl, Nat.add_zero] at hr0
    rw [show (((1 : Nat) : Int)) = 1 from rfl] at hr1
    rw [show (2 : Int).toNat = 2 from rfl, hr0, hr1]
    have b0 : 0 ≤ all.getD s.1.toNat 0 ∧ all.getD s.1.toNat 0 ≤ 255 := hb _ (getD_mem (by omega))
    have b1 : 0 ≤ all.getD (s.1.toNat + 1) 0 ∧ all.getD (s.1.toNat + 1) 0 ≤ 255 := hb _ (getD_mem (by omega))
    rw [wd2 hp]
    simp only [leV, Int.mul_zero, Int.add_zero]
    generalize all.getD s.1.toNat 0 = x at b0 ⊢
    generalize all.getD (s.1.toNat + 1) 0 = y at b1 ⊢
    simp only [Option.bind_some, wi64 (show -9223372036854775808 ≤ x ∧ x ≤ 9223372036854775807 by omega), wi64 (show -9223372036854775808 ≤ y ∧ y ≤ 9223372036854775807 by omega),
      wi64 (show -9223372036854775808 ≤ 256 * y ∧ 256 * y ≤ 9223372036854775807 by omega), wi64 (show -9223372036854775808 ≤ x + 256 * y ∧ x + 256 * y ≤ 9223372036854775807 by omega), rfail_eq]
    by_cases c1 : x + 256 * y < lo
    · rw [decide_eq_true c1, cond_true, if_pos (.inl c1)]
    · rw [decide_eq_false c1, cond_false]
      by_cases c2 : x + 256 * y > hi
      · rw [decide_eq_true c2, cond_true, if_pos (.inr c2)]
      · rw [decide_eq_false c2, cond_false, if_neg (by omega)]
theorem rnumrK (n : Nat) (v) : K37_0 (n + 1) v = B37_0_6 (K37_0 n) v := rfl
theorem rnumr_go {w : List Int} (hb : Bytes w) (hl : w.length = 8) (z : List Int × RS) : ∀ (k n : Nat) (u : Int), k ≤ 8 → k < n → u = leV (w.drop k) → K37_0 n ((w, (u, (k : Int) - 1)), z) = some (IntKind.wrap .i64 (leV w), z) := by
  intro k
  induction k with
  | zero =>
    intro n u hk hn hu
    obtain ⟨n, rfl⟩ : ∃ m, n = m + 1 := ⟨n - 1, by omega⟩
    rw [rnumrK]
    unfold B37_0_6
    rw [decide_eq_false (by simp), cond_false, hu, List.drop_zero]
  | succ k ih =>
    intro n u hk hn hu
    obtain ⟨n, rfl⟩ : ∃ m, n = m + 1 := ⟨n - 1, by omega⟩
    have hkl : k < w.length := by omega
    have hx := hb w[k] (List.getElem_mem hkl)
    have hbd := leV_bound (w.drop (k + 1)) fun x hx => hb x (List.mem_of_mem_drop hx)
    rw [← hu, List.length_drop, hl] at hbd
    have hp : (2 : Int) ^ (8 * (8 - (k + 1))) ≤ 72057594037927936 := by
      have h8 : (2 : Nat) ^ (8 * (8 - (k + 1))) ≤ 2 ^ 56 := Nat.pow_le_pow_right (by decide) (by omega)
      have h9 : ((2 ^ (8 * (8 - (k + 1))) : Nat) : Int) ≤ ((2 ^ 56 : Nat) : Int) := Int.ofNat_le.2 h8
      simpa using h9
    rw [rnumrK]
    unfold B37_0_6
    rw [decide_eq_true (show (((k + 1 : Nat) : Int) - 1) ≥ 0 by omega), cond_true]
    have e : (((k + 1 : Nat) : Int) - 1) = (k : Int) := by omega
    have hr : rdx w (((k + 1 : Nat) : Int) - 1) = some w[k] := by
      rw [e]
      unfold rdx
      rw [decide_eq_true (by omega)]
      simp [List.getElem?_eq_getElem hkl]
    simp only [hr, Option.bind_some, wrap_u64 (show U64 w[k] by unfold U64; omega), wrap_u64 (show U64 (u * 256) by unfold U64; omega), wrap_u64 (show U64 (u * 256 + w[k]) by unfold U64; omega)]
    rw [e, wi64 (by omega)]
    exact ih n _ (by omega) (by omega) (by rw [List.drop_eq_getElem_cons hkl, leV, ← hu]; omega)
theorem rnumr_eq {all : List Int} {s : RS} (hb : Bytes all) (hs : SOk all.length s) : F37_0 (all, s) = some ((numS all s).1, (all, (numS all s).2)) := by
  unfold F37_0 E37_0 numS
  rw [rword_eq hs 8 (by omega) (by omega), Option.bind_some]
  cases h : wordS all.length 8 s with
  | inl t => rfl
  | inr t =>
    obtain ⟨h1, h2, _, _⟩ := wordS_ok hs (by omega) h
    have hp : s.1.toNat + 8 ≤ all.length := by unfold SOk at hs; omega
    simp only [Bool.not_true, cond_false]
    have := rnumr_go (w := wdS all s.1.toNat 8) (wdS_bytes hb _ _) (wdS_len hp) (all, t) 8 1000 0 (by omega) (by omega) (by rw [List.drop_eq_nil_of_le (by rw [wdS_len hp]; omega)]; rfl)
    exact this
theorem wd4 {all : List Int} {p : Nat} (h : p + 4 ≤ all.length) : wdS all p 4 = [all.getD p 0, all.getD (p + 1) 0, all.getD (p + 1 + 1) 0, all.getD (p + 1 + 1 + 1) 0] := by
  apply List.ext_getElem?
  intro j
  match j with
  | 0 => rw [wdS_get h 0 (by omega), Nat.add_zero, getD_at (by omega)]; rfl
  | 1 => rw [wdS_get h 1 (by omega), getD_at (by omega)]; rfl
  | 2 => rw [wdS_get h 2 (by omega), show p + 2 = p + 1 + 1 from rfl, getD_at (by omega)]; rfl
  | 3 => rw [wdS_get h 3 (by omega), show p + 3 = p + 1 + 1 + 1 from rfl, getD_at (by omega)]; rfl
  | j + 4 => rw [List.getElem?_eq_none (by rw [wdS_len h]; omega), List.getElem?_eq_none (by simp)]
theorem mark_eq {all : List Int} {s : RS} (hs : SOk all.length s) {m : ByteArray} {a b c d : Int} (hm : F44_0 m = some (a, (b, (c, d)))) : F30_0 (m, (s, all)) = some (markS all [a, b, c, d] s, all) := by
  unfold F30_0 markS
  rw [word_eq hs 4 (by omega) (by omega), Option.bind_some]
  cases h : wordS all.length 4 s with
  | inl t => rfl
  | inr t =>
    obtain ⟨h1, h2, _, _⟩ := wordS_ok hs (by omega) h
    have hp : s.1.toNat + 4 ≤ all.length := by unfold SOk at hs; omega
    simp only []
    rw [chkT (by decide), chkT (by decide), wd4 hp]
    simp only [getD_at (show s.1.toNat < all.length by omega), getD_at (show s.1.toNat + 1 < all.length by omega), getD_at (show s.1.toNat + 1 + 1 < all.length by omega), getD_at (show s.1.toNat + 1 + 1 + 1 < all.length by omega), Option.bind_some, hm, fail_eq, Bool.and_true]
    generalize all.getD s.1.toNat 0 = x
    generalize all.getD (s.1.toNat + 1) 0 = y
    generalize all.getD (s.1.toNat + 1 + 1) 0 = z
    generalize all.getD (s.1.toNat + 1 + 1 + 1) 0 = u
    by_cases c1 : [x, y, z, u] = [a, b, c, d]
    · rw [if_pos c1]
      simp only [List.cons.injEq, and_true] at c1
      obtain ⟨rfl, rfl, rfl, rfl⟩ := c1
      simp
    · rw [if_neg c1]
      have : (x == a && (y == b && (z == c && u == d))) = false := by
        rw [Bool.eq_false_iff]
        intro hh
        simp only [Bool.and_eq_true, beq_iff_eq] at hh
        exact c1 (by simp [hh.1, hh.2.1, hh.2.2.1, hh.2.2.2])
      rw [this]; rfl
theorem rmark_eq {all : List Int} {s : RS} (hb : Bytes all) (hs : SOk all.length s) {m : ByteArray} {mk : List Int} (hk : Bytes mk) (hm : F24_0 m = some mk) : F36_0 (m, (all, s)) = some (all, markS all mk s) := by
  unfold F36_0 markS
  rw [rword_eq hs 4 (by omega) (by omega), Option.bind_some]
  cases h : wordS all.length 4 s with
  | inl t => rfl
  | inr t =>
    simp only [cond_true, hm, Option.bind_some]
    rw [show strOf (E.enc 5) (wdS all s.1.toNat (4 : Int).toNat) = some _ from strOf_ints _ (fun _ => rfl) _, show strOf (E.enc 5) mk = some _ from strOf_ints _ (fun _ => rfl) _]
    simp only [Option.bind_some, str_beq, u8_inj (wdS_bytes hb _ _) hk, rfail_eq]
    rw [show (4 : Int).toNat = 4 from rfl]
    by_cases c : wdS all s.1.toNat 4 = mk
    · rw [if_pos c, decide_eq_true c]; rfl
    · rw [if_neg c, decide_eq_false c]; rfl
theorem refuse_eq {e : Int} (he : e ≠ 0) (s : RS) (all : List Int) : F32_0 (e, (s, all)) = some (failS e s.2.1 s, all) := by
  unfold F32_0
  simp only [beq_eq_false_iff_ne.2 he, cond_false, fail_eq, Option.bind_some]
theorem rrefuse_eq {e : Int} (he : e ≠ 0) (s : RS) (all : List Int) : F38_0 (e, (all, s)) = some (all, failS e s.2.1 s) := by
  unfold F38_0
  simp only [beq_eq_false_iff_ne.2 he, cond_false, rfail_eq, Option.bind_some]
theorem end_eq (s : RS) (all : List Int) : F35_0 (s, all) = some ((endS0 all.length s).2.2, (endS0 all.length s, all)) := by
  unfold F35_0 endS0
  by_cases c : s.1 < (all.length : Int)
  · rw [if_pos c, decide_eq_true c, cond_true, fail_eq]; rfl
  · rw [if_neg c, decide_eq_false c, cond_false]
theorem rend_eq (s : RS) (all : List Int) : F41_0 (all, s) = some ((endS0 all.length s).2.2, (all, endS0 all.length s)) := by
  unfold F41_0 endS0
  by_cases h : s.2.2.1 = 0
  · simp only [h, beq_self_eq_true, cond_true]
    by_cases c : s.1 < (all.length : Int)
    · rw [if_pos c, decide_eq_true c, cond_true, rfail_eq]; rfl
    · rw [if_neg c, decide_eq_false c, cond_false]
  · simp only [beq_eq_false_iff_ne.2 h, cond_false]
    by_cases c : s.1 < (all.length : Int)
    · rw [if_pos c]
      have : failS 23 s.1 s = s := by unfold failS; rw [if_neg h]
      rw [this]
    · rw [if_neg c]
/-! ### What stays right -/
theorem numS_ok {all : List Int} {s : RS} (hs : SOk all.length s) : SOk all.length (numS all s).2 := by
  unfold numS
  split
  · rename_i h; exact (wordS_fail hs h).2
  · rename_i h; exact (wordS_ok hs (by omega) h).2.2.2
theorem countS_ok {all : List Int} {lo hi : Int} {s : RS} (hs : SOk all.length s) : SOk all.length (countS all lo hi s).2 := by
  unfold countS
  split
  · rename_i h; exact (wordS_fail hs h).2
  · rename_i t h
    have h2 := (wordS_ok hs (by omega) h).2.2.2
    split
    · exact failS_ok h2 (by unfold SOk at h2; omega)
    · exact h2
theorem flagS_ok {all : List Int} {s : RS} (hs : SOk all.length s) : SOk all.length (flagS all s).2 := by
  unfold flagS
  split
  · rename_i h; exact (wordS_fail hs h).2
  · rename_i t h
    have h2 := (wordS_ok hs (by omega) h).2.2.2
    split
    · exact failS_ok h2 (by unfold SOk at h2; omega)
    · exact h2
theorem markS_ok {all mk : List Int} {s : RS} (hs : SOk all.length s) : SOk all.length (markS all mk s) := by
  unfold markS
  split
  · rename_i h; exact (wordS_fail hs h).2
  · rename_i t h
    have h2 := (wordS_ok hs (by omega) h).2.2.2
    split
    · exact h2
    · exact failS_ok h2 (by unfold SOk at h2; omega)
theorem endS_ok {L : Int} {s : RS} (hs : SOk L s) : SOk L (endS0 L s) := by
  unfold endS0
  split
  · exact failS_ok hs (by unfold SOk at hs; omega)
  · exact hs
/-- What was right ahead of a read that is right behind it. -/
theorem countS_in {all : List Int} {lo hi : Int} {s : RS} (hs : SOk all.length s) (h : (countS all lo hi s).2.2.2.1 = 0) :
    s.2.2.1 = 0 ∧ s.1 + 2 ≤ all.length ∧ lo ≤ (countS all lo hi s).1 ∧ (countS all lo hi s).1 ≤ hi ∧ (countS all lo hi s).1 = leV (wdS all s.1.toNat 2) ∧ (countS all lo hi s).2 = (s.1 + 2, (s.1, s.2.2)) := by
  unfold countS at h ⊢
  cases hw : wordS all.length 2 s with
  | inl t => rw [hw] at h; exact absurd h (wordS_fail hs hw).1
  | inr t =>
    rw [hw] at h
    simp only [] at h ⊢
    obtain ⟨h1, h2, h3, h4⟩ := wordS_ok hs (by omega) hw
    by_cases c : leV (wdS all s.1.toNat 2) < lo ∨ leV (wdS all s.1.toNat 2) > hi
    · rw [if_pos c] at h; exact absurd h (failS_err (by decide) _)
    · rw [if_neg c]; exact ⟨h1, h2, by simp only []; omega, by simp only []; omega, rfl, h3⟩
theorem countS_go {all : List Int} {lo hi : Int} {s : RS} (h : s.2.2.1 = 0) (h2 : s.1 + 2 ≤ all.length) (hl : lo ≤ leV (wdS all s.1.toNat 2)) (hh : leV (wdS all s.1.toNat 2) ≤ hi) :
    countS all lo hi s = (leV (wdS all s.1.toNat 2), (s.1 + 2, (s.1, s.2.2))) := by
  unfold countS wordS
  rw [if_neg (by simp [h]), if_neg (by omega)]
  simp only []
  rw [if_neg (by omega)]
theorem flagS_in {all : List Int} {s : RS} (hs : SOk all.length s) (h : (flagS all s).2.2.2.1 = 0) :
    s.2.2.1 = 0 ∧ s.1 + 1 ≤ all.length ∧ all.getD s.1.toNat 0 ≤ 1 ∧ (flagS all s).1 = (all.getD s.1.toNat 0 == 1) ∧ (flagS all s).2 = (s.1 + 1, (s.1, s.2.2)) := by
  unfold flagS at h ⊢
  cases hw : wordS all.length 1 s with
  | inl t => rw [hw] at h; exact absurd h (wordS_fail hs hw).1
  | inr t =>
    rw [hw] at h
    simp only [] at h ⊢
    obtain ⟨h1, h2, h3, h4⟩ := wordS_ok hs (by omega) hw
    by_cases c : all.getD s.1.toNat 0 > 1
    · rw [if_pos c] at h; exact absurd h (failS_err (by decide) _)
    · rw [if_neg c]; exact ⟨h1, h2, by omega, rfl, h3⟩
theorem flagS_go {all : List Int} {s : RS} (h : s.2.2.1 = 0) (h2 : s.1 + 1 ≤ all.length) (hl : all.getD s.1.toNat 0 ≤ 1) :
    flagS all s = (all.getD s.1.toNat 0 == 1, (s.1 + 1, (s.1, s.2.2))) := by
  unfold flagS wordS
  rw [if_neg (by simp [h]), if_neg (by omega)]
  simp only []
  rw [if_neg (by omega)]
theorem numS_in {all : List Int} {s : RS} (hs : SOk all.length s) (h : (numS all s).2.2.2.1 = 0) :
    s.2.2.1 = 0 ∧ s.1 + 8 ≤ all.length ∧ (numS all s).1 = IntKind.wrap .i64 (leV (wdS all s.1.toNat 8)) ∧ (numS all s).2 = (s.1 + 8, (s.1, s.2.2)) := by
  unfold numS at h ⊢
  cases hw : wordS all.length 8 s with
  | inl t => rw [hw] at h; exact absurd h (wordS_fail hs hw).1
  | inr t =>
    obtain ⟨h1, h2, h3, h4⟩ := wordS_ok hs (by omega) hw
    exact ⟨h1, h2, rfl, h3⟩
theorem numS_go {all : List Int} {s : RS} (h : s.2.2.1 = 0) (h2 : s.1 + 8 ≤ all.length) : numS all s = (IntKind.wrap .i64 (leV (wdS all s.1.toNat 8)), (s.1 + 8, (s.1, s.2.2))) := by
  unfold numS wordS
  rw [if_neg (by simp [h]), if_neg (by omega)]
theorem markS_in {all mk : List Int} {s : RS} (hs : SOk all.length s) (h : (markS all mk s).2.2.1 = 0) : s.2.2.1 = 0 ∧ s.1 + 4 ≤ all.length ∧ wdS all s.1.toNat 4 = mk ∧ markS all mk s = (s.1 + 4, (s.1, s.2.2)) := by
  unfold markS at h ⊢
  cases hw : wordS all.length 4 s with
  | inl t => rw [hw] at h; exact absurd h (wordS_fail hs hw).1
  | inr t =>
    rw [hw] at h
    simp only [] at h ⊢
    obtain ⟨h1, h2, h3, h4⟩ := wordS_ok hs (by omega) hw
    by_cases c : wdS all s.1.toNat 4 = mk
    · rw [if_pos c]; exact ⟨h1, h2, c, h3⟩
    · rw [if_neg c] at h; exact absurd h (failS_err (by decide) _)
theorem markS_go {all mk : List Int} {s : RS} (h : s.2.2.1 = 0) (h2 : s.1 + 4 ≤ all.length) (hm : wdS all s.1.toNat 4 = mk) : markS all mk s = (s.1 + 4, (s.1, s.2.2)) := by
  unfold markS wordS
  rw [if_neg (by simp [h]), if_neg (by omega)]
  simp only []
  rw [if_pos hm]
end Go.Proofs.Ytggfniipidepdaa.Ev
