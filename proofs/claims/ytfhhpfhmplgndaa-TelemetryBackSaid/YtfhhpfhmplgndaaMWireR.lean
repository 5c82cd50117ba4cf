/- Bytes, word by word: what the program reads and what the document reads. -/
import Derived.Test.YtfhhpfhmplgndaaMWire
set_option linter.unusedVariables false
set_option linter.unusedSimpArgs false
namespace Go.Proofs.Ytfhhpfhmplgndaa.Ev
open Go

theorem or_comm64 (x y : Int) : bits .or .u64 x y = bits .or .u64 y x := by simp only [bits, BitVec.or_comm]
/-- All are bytes. -/
def Bytes (b : List Int) : Prop := ∀ x ∈ b, 0 ≤ x ∧ x ≤ 255
/-- The number of some bytes, the lowest first. -/
def leV : List Int → Int
  | [] => 0
  | x :: r => x + 256 * leV r
theorem leV_bound : ∀ (l : List Int), Bytes l → 0 ≤ leV l ∧ leV l < 2 ^ (8 * l.length) := by
  intro l
  induction l with
  | nil => intro _; exact ⟨by simp [leV], by simp [leV]⟩
  | cons x l ih =>
    intro h
    have h1 := h x (List.mem_cons_self ..)
    have h2 := ih fun y hy => h y (List.mem_cons_of_mem _ hy)
    have e : (2 : Int) ^ (8 * (x :: l).length) = 256 * 2 ^ (8 * l.length) := by
      rw [List.length_cons, Nat.mul_add, Int.pow_add]
      generalize (2 : Int) ^ (8 * l.length) = z
      rw [show (2 : Int) ^ (8 * 1) = 256 by decide]; omega
    rw [e]
    simp only [leV]
    generalize (2 : Int) ^ (8 * l.length) = z at h2
    omega
theorem leB_leV : ∀ (l : List Int), Bytes l → leB l.length (leV l) = l := by
  intro l
  induction l with
  | nil => intro _; rfl
  | cons x l ih =>
    intro h
    have h1 := h x (List.mem_cons_self ..)
    have h2 := ih fun y hy => h y (List.mem_cons_of_mem _ hy)
    simp only [List.length_cons, leB, leV]
    rw [show (x + 256 * leV l) % 256 = x by omega, show (x + 256 * leV l) / 256 = leV l by omega, h2]
theorem leV_leB : ∀ (k : Nat) (n : Int), 0 ≤ n → n < 2 ^ (8 * k) → leV (leB k n) = n := by
  intro k
  induction k with
  | zero => intro n h0 h1; simp only [leB, leV]; simp at h1; omega
  | succ k ih =>
    intro n h0 h1
    have e : (2 : Int) ^ (8 * (k + 1)) = 256 * 2 ^ (8 * k) := by
      rw [Nat.mul_add, Int.pow_add]
      generalize (2 : Int) ^ (8 * k) = z
      rw [show (2 : Int) ^ (8 * 1) = 256 by decide]; omega
    rw [e] at h1
    simp only [leB, leV]
    rw [ih (n / 256) (by omega) (by generalize (2 : Int) ^ (8 * k) = z at h1 ⊢; omega)]
    omega
theorem leB_bytes : ∀ (k : Nat) (n : Int), Bytes (leB k n) := by
  intro k
  induction k with
  | zero => intro n x hx; simp [leB] at hx
  | succ k ih =>
    intro n x hx
    simp only [leB, List.mem_cons] at hx
    rcases hx with rfl | hx
    · omega
    · exact ih _ x hx
/-! ### Strings -/
theorem str_beq (x y : List UInt8) : ((⟨x.toArray⟩ : ByteArray) == (⟨y.toArray⟩ : ByteArray)) = decide (x = y) := by
  have e : ((⟨x.toArray⟩ : ByteArray) == (⟨y.toArray⟩ : ByteArray)) = (x.toArray == y.toArray) := rfl
  rw [e]
  by_cases h : x = y
  · subst h; simp
  · rw [decide_eq_false h, beq_eq_false_iff_ne]
    intro e
    exact h (by simpa using congrArg Array.toList e)
theorem u8_inj : ∀ {x y : List Int}, Bytes x → Bytes y → (x.map (fun n => UInt8.ofNat n.toNat) = y.map (fun n => UInt8.ofNat n.toNat) ↔ x = y) := by
  intro x
  induction x with
  | nil => intro y _ _; cases y <;> simp
  | cons a x ih =>
    intro y hx hy
    cases y with
    | nil => simp
    | cons b y =>
      have h1 := hx a (List.mem_cons_self ..)
      have h2 := hy b (List.mem_cons_self ..)
      have h3 := ih (y := y) (fun z hz => hx z (List.mem_cons_of_mem _ hz)) (fun z hz => hy z (List.mem_cons_of_mem _ hz))
      simp only [List.map_cons, List.cons.injEq, h3]
      constructor
      · rintro ⟨e, h⟩
        refine ⟨?_, h⟩
        have := congrArg UInt8.toNat e
        simp only [UInt8.toNat_ofNat'] at this
        omega
      · rintro ⟨rfl, h⟩
        exact ⟨rfl, h⟩
/-! ### Words of bytes -/
theorem fromK (n : Nat) (v) : K86_0 (n + 1) v = B86_0_3 (K86_0 n) v := rfl
theorem from_go (xs : List Int) (hb : Bytes xs) (hl : xs.length ≤ 8) : ∀ (d i n : Nat) (acc : Int), d < n → i + d = xs.length → 0 ≤ acc → acc < 2 ^ (8 * i) → K86_0 n (acc, (xs, ((xs.length : Int), (i : Int)))) = some (acc + 2 ^ (8 * i) * leV (xs.drop i)) := by
  intro d
  induction d with
  | zero =>
    intro i n acc hn hi h0 h1
    obtain ⟨n, rfl⟩ : ∃ m, n = m + 1 := ⟨n - 1, by omega⟩
    rw [fromK]
    unfold B86_0_3
    rw [decide_eq_false (by simp; omega), cond_false, List.drop_eq_nil_of_le (by omega)]
    simp [leV]
  | succ d ih =>
    intro i n acc hn hi h0 h1
    obtain ⟨n, rfl⟩ : ∃ m, n = m + 1 := ⟨n - 1, by omega⟩
    have hil : i < xs.length := by omega
    have hx := hb xs[i] (List.getElem_mem hil)
    rw [fromK]
    unfold B86_0_3
    rw [decide_eq_true (show ((i : Int)) < (xs.length : Int) by omega), cond_true]
    have hr : rdx xs (i : Int) = some xs[i] := by
      unfold rdx
      rw [decide_eq_true (by omega)]
      simp [List.getElem?_eq_getElem hil]
    simp only [hr, Option.bind_some, wi64 (show -9223372036854775808 ≤ ((8 : Int) * (i : Int)) ∧ ((8 : Int) * (i : Int)) ≤ 9223372036854775807 by omega),
      wi64 (show -9223372036854775808 ≤ ((i : Int) + 1) ∧ ((i : Int) + 1) ≤ 9223372036854775807 by omega)]
    rw [chkT (show (0 : Int) ≤ 8 * (i : Int) by omega)]
    have e1 : ((8 : Int) * (i : Int)).toNat = 8 * i := by omega
    have e2 : min (8 * i) 64 = 8 * i := by omega
    rw [e1, e2, wrap_u64 (show U64 xs[i] by unfold U64; omega)]
    have hp : (0 : Int) < 2 ^ (8 * i) := Int.pow_pos (by decide)
    have hp2 : (2 : Int) ^ (8 * i) * 256 ≤ 18446744073709551616 := by
      have : (2 : Int) ^ (8 * i) * 256 = 2 ^ (8 * (i + 1)) := by rw [Nat.mul_add, Int.pow_add]; rfl
      rw [this]
      have h8 : (2 : Nat) ^ (8 * (i + 1)) ≤ 2 ^ 64 := Nat.pow_le_pow_right (by decide) (by omega)
      have h9 : ((2 ^ (8 * (i + 1)) : Nat) : Int) ≤ ((2 ^ 64 : Nat) : Int) := Int.ofNat_le.2 h8
      simpa using h9
    have hs : 0 ≤ xs[i] * 2 ^ (8 * i) ∧ xs[i] * 2 ^ (8 * i) ≤ 255 * 2 ^ (8 * i) := ⟨Int.mul_nonneg hx.1 (Int.le_of_lt hp), Int.mul_le_mul_of_nonneg_right hx.2 (Int.le_of_lt hp)⟩
    rw [wrap_u64 (show U64 (xs[i] * 2 ^ (8 * i)) by unfold U64; omega), or_comm64,
      u64_join (8 * i) (by unfold U64; omega) (Int.mul_emod_left _ _) h0 h1 (by unfold U64; omega)]
    have e3 : (2 : Int) ^ (8 * (i + 1)) = 2 ^ (8 * i) * 256 := by rw [Nat.mul_add, Int.pow_add]; rfl
    have := ih (i + 1) n (xs[i] * 2 ^ (8 * i) + acc) (by omega) (by omega) (by omega) (by rw [e3]; omega)
    rw [show ((i + 1 : Nat) : Int) = (i : Int) + 1 by omega] at this
    rw [this, List.drop_eq_getElem_cons hil, leV, e3]
    congr 1
    rw [Int.mul_add, Int.mul_comm xs[i], Int.mul_assoc]
    omega
theorem from_eq {xs : List Int} (hb : Bytes xs) (hl : xs.length ≤ 8) : F86_0 xs = some (leV xs) := by
  have := from_go xs hb hl xs.length 0 1000 0 (by omega) (by omega) (by omega) (by simp)
  rw [List.drop_zero] at this
  refine Eq.trans ?_ (this.trans ?_)
  · rfl
  · simp
/-! ### What is read -/
abbrev RS : Type := Int × Int × Int × Int
def SOk (L : Int) (s : RS) : Prop := 0 ≤ s.1 ∧ s.1 ≤ L ∧ 0 ≤ s.2.1 ∧ s.2.1 ≤ L ∧ 0 ≤ s.2.2.2 ∧ s.2.2.2 ≤ L ∧ L ≤ 100000000
def failS (e at_ : Int) (s : RS) : RS := if s.2.2.1 = 0 then (s.1, (s.2.1, (e, at_))) else s
def wordS (L n : Int) (s : RS) : RS ⊕ RS := if s.2.2.1 ≠ 0 then .inl s else if n > L - s.1 then .inl (failS 20 L s) else .inr (s.1 + n, (s.1, s.2.2))
def wdS (all : List Int) (p n : Nat) : List Int := (all.drop p).take n
theorem fail_eq (e at_ : Int) (s : RS) (all : List Int) : F85_0 ((e, at_), (s, all)) = some (failS e at_ s, all) := by
  unfold F85_0 failS
  by_cases h : s.2.2.1 = 0
  · rw [if_pos h]; simp only [h]; rfl
  · rw [if_neg h]; simp only [beq_eq_false_iff_ne.2 h]; rfl
theorem word_eq {all : List Int} {s : RS} (hs : SOk all.length s) (n : Int) (h0 : 0 ≤ n) (h1 : n ≤ 1000) :
    F84_0 (n, (s, all)) = some (match wordS all.length n s with | .inl t => .inl (t, all) | .inr t => .inr ((s.1.toNat, n.toNat), (t, all))) := by
  unfold SOk at hs
  unfold F84_0 wordS
  by_cases h : s.2.2.1 = 0
  · rw [if_neg (by simp [h])]
    simp only [h, bne_self_eq_false, cond_false, wi64 (show -9223372036854775808 ≤ ((all.length : Int) - s.1) ∧ ((all.length : Int) - s.1) ≤ 9223372036854775807 by omega)]
    by_cases h2 : n > (all.length : Int) - s.1
    · rw [if_pos h2, decide_eq_true h2, cond_true, fail_eq]; rfl
    · rw [if_neg h2, decide_eq_false h2, cond_false]
      simp only [wi64 (show -9223372036854775808 ≤ (s.1 + n) ∧ (s.1 + n) ≤ 9223372036854775807 by omega)]
      rw [show (chk (decide True)) = some () from rfl, Option.bind_some]
      have e : cutn s.1 (s.1 + n) (all.length : Int) = some (s.1.toNat, n.toNat) := by
        unfold cutn
        rw [decide_eq_true (by omega)]
        simp only [Option.some.injEq, Prod.mk.injEq, true_and]
        congr 1; omega
      rw [e]; rfl
  · rw [if_pos h]
    simp only [bne_iff_ne.2 h, cond_true]
theorem wordS_ok {L n : Int} {s t : RS} (hs : SOk L s) (h0 : 0 ≤ n) (h : wordS L n s = .inr t) : s.2.2.1 = 0 ∧ s.1 + n ≤ L ∧ t = (s.1 + n, (s.1, s.2.2)) ∧ SOk L t := by
  unfold wordS at h
  split at h
  · cases h
  · split at h
    · cases h
    · simp only [Sum.inr.injEq] at h
      subst h
      rename_i h1 h2
      have e : s.2.2.1 = 0 := by simpa using h1
      exact ⟨e, by omega, rfl, by unfold SOk at hs ⊢; simp only []; omega⟩
theorem failS_ok {L e at_ : Int} {s : RS} (hs : SOk L s) (h : 0 ≤ at_ ∧ at_ ≤ L) : SOk L (failS e at_ s) := by
  unfold failS
  split
  · unfold SOk at hs ⊢; simp only []; omega
  · exact hs
theorem failS_err {e at_ : Int} (he : e ≠ 0) (s : RS) : (failS e at_ s).2.2.1 ≠ 0 := by
  unfold failS
  split
  · exact he
  · assumption
theorem wordS_fail {L n : Int} {s t : RS} (hs : SOk L s) (h : wordS L n s = .inl t) : t.2.2.1 ≠ 0 ∧ SOk L t := by
  unfold wordS at h
  split at h
  · simp only [Sum.inl.injEq] at h; subst h; rename_i h1; exact ⟨h1, hs⟩
  · split at h
    · simp only [Sum.inl.injEq] at h; subst h
      exact ⟨failS_err (by decide) _, failS_ok hs (by unfold SOk at hs; omega)⟩
    · cases h
theorem wdS_len {all : List Int} {p n : Nat} (h : p + n ≤ all.length) : (wdS all p n).length = n := by unfold wdS; simp; omega
theorem wdS_bytes {all : List Int} (h : Bytes all) (p n : Nat) : Bytes (wdS all p n) := fun x hx => h x (List.mem_of_mem_drop (List.mem_of_mem_take hx))
theorem wdS_get {all : List Int} {p n : Nat} (h : p + n ≤ all.length) (j : Nat) (hj : j < n) : (wdS all p n)[j]? = all[p + j]? := by
  unfold wdS; rw [List.getElem?_take, if_pos hj, List.getElem?_drop]
/-! ### Numbers, counts, flags, marks -/
def numS (all : List Int) (s : RS) : Int × RS := match wordS all.length 8 s with
  | .inl t => (0, t)
  | .inr t => (IntKind.wrap .i64 (leV (wdS all s.1.toNat 8)), t)
def countS (all : List Int) (lo hi : Int) (s : RS) : Int × RS := match wordS all.length 2 s with
  | .inl t => (0, t)
  | .inr t => if leV (wdS all s.1.toNat 2) < lo ∨ leV (wdS all s.1.toNat 2) > hi then (0, failS 22 t.2.1 t) else (leV (wdS all s.1.toNat 2), t)
def flagS (all : List Int) (s : RS) : Bool × RS := match wordS all.length 1 s with
  | .inl t => (false, t)
  | .inr t => if all.getD s.1.toNat 0 > 1 then (false, failS 24 t.2.1 t) else (all.getD s.1.toNat 0 == 1, t)
def markS (all mk : List Int) (s : RS) : RS := match wordS all.length 4 s with
  | .inl t => t
  | .inr t => if wdS all s.1.toNat 4 = mk then t else failS 21 t.2.1 t
def endS0 (L : Int) (s : RS) : RS := if s.1 < L then failS 23 s.1 s else s

theorem num_eq {all : List Int} {s : RS} (hb : Bytes all) (hs : SOk all.length s) : F48_0 (s, all) = some ((numS all s).1, ((numS all s).2, all)) := by
  unfold F48_0 numS
  rw [word_eq hs 8 (by omega) (by omega), Option.bind_some]
  cases h : wordS all.length 8 s with
  | inl t => rfl
  | inr t =>
    obtain ⟨h1, h2, _, _⟩ := wordS_ok hs (by omega) h
    have hp : s.1.toNat + 8 ≤ all.length := by unfold SOk at hs; omega
    simp only []
    rw [chkT (by decide)]
    rw [show ((all.drop s.1.toNat).take (8 : Int).toNat) = wdS all s.1.toNat 8 from rfl, from_eq (wdS_bytes hb _ _) (by rw [wdS_len hp]; omega)]
    rfl
theorem getD_mem {l : List Int} {p : Nat} (h : p < l.length) : l.getD p 0 ∈ l := by simp [List.getD, List.getElem?_eq_getElem h]
theorem getD_at {l : List Int} {p : Nat} (h : p < l.length) : l[p]? = some (l.getD p 0) := by simp [List.getD, List.getElem?_eq_getElem h]
theorem rd_wd {all : List Int} {p n : Nat} (h : p + n ≤ all.length) (j : Nat) (hj : j < n) : rdx (wdS all p n) (j : Int) = some (all.getD (p + j) 0) := by
  unfold rdx
  rw [decide_eq_true (by omega)]
  simp only [Int.toNat_natCast]
  rw [wdS_get h j hj, getD_at (by omega)]
theorem wd2 {all : List Int} {p : Nat} (h : p + 2 ≤ all.length) : wdS all p 2 = [all.getD p 0, all.getD (p + 1) 0] := by
  apply List.ext_getElem?
  intro j
  match j with
  | 0 => rw [wdS_get h 0 (by omega), Nat.add_zero, getD_at (by omega)]; rfl
  | 1 => rw [wdS_get h 1 (by omega), getD_at (by omega)]; rfl
  | j + 2 => rw [List.getElem?_eq_none (by rw [wdS_len h]; omega), List.getElem?_eq_none (by simp)]
theorem wd4 {all : List Int} {p : Nat} (h : p + 4 ≤ all.length) : wdS all p 4 = [all.getD p 0, all.getD (p + 1) 0, all.getD (p + 1 + 1) 0, all.getD (p + 1 + 1 + 1) 0] := by
  apply List.ext_getElem?
  intro j
  match j with
  | 0 => rw [wdS_get h 0 (by omega), Nat.add_zero, getD_at (by omega)]; rfl
  | 1 => rw [wdS_get h 1 (by omega), getD_at (by omega)]; rfl
  | 2 => rw [wdS_get h 2 (by omega), show p + 2 = p + 1 + 1 from rfl, getD_at (by omega)]; rfl
  | 3 => rw [wdS_get h 3 (by omega), show p + 3 = p + 1 + 1 + 1 from rfl, getD_at (by omega)]; rfl
  | j + 4 => rw [List.getElem?_eq_none (by rw [wdS_len h]; omega), List.getElem?_eq_none (by simp)]
theorem mark_eq {all : List Int} {s : RS} (hs : SOk all.length s) {m : ByteArray} {a b c d : Int} (hm : F75_0 m = some (a, (b, (c, d)))) : F47_0 (m, (s, all)) = some (markS all [a, b, c, d] s, all) := by
  unfold F47_0 markS
  rw [word_eq hs 4 (by omega) (by omega), Option.bind_some]
  cases h : wordS all.length 4 s with
  | inl t => rfl
  | inr t =>
    obtain ⟨h1, h2, _, _⟩ := wordS_ok hs (by omega) h
    have hp : s.1.toNat + 4 ≤ all.length := by unfold SOk at hs; omega
    simp only []
    rw [chkT (by decide), chkT (by decide), wd4 hp]
    simp only [getD_at (show s.1.toNat < all.length by omega), getD_at (show s.1.toNat + 1 < all.length by omega), getD_at (show s.1.toNat + 1 + 1 < all.length by omega), getD_at (show s.1.toNat + 1 + 1 + 1 < all.length by omega), Option.bind_some, hm, fail_eq, Bool.and_true]
    generalize all.getD s.1.toNat 0 = x
    generalize all.getD (s.1.toNat + 1) 0 = y
    generalize all.getD (s.1.toNat + 1 + 1) 0 = z
    generalize all.getD (s.1.toNat + 1 + 1 + 1) 0 = u
    by_cases c1 : [x, y, z, u] = [a, b, c, d]
    · rw [if_pos c1]
      simp only [List.cons.injEq, and_true] at c1
      obtain ⟨rfl, rfl, rfl, rfl⟩ := c1
      simp
    · rw [if_neg c1]
      have : (x == a && (y == b && (z == c && u == d))) = false := by
        rw [Bool.eq_false_iff]
        intro hh
        simp only [Bool.and_eq_true, beq_iff_eq] at hh
        exact c1 (by simp [hh.1, hh.2.1, hh.2.2.1, hh.2.2.2])
      rw [this]; rfl
theorem refuse_eq {e : Int} (he : e ≠ 0) (s : RS) (all : List Int) : F49_0 (e, (s, all)) = some (failS e s.2.1 s, all) := by
  unfold F49_0
  simp only [beq_eq_false_iff_ne.2 he, cond_false, fail_eq, Option.bind_some]
theorem end_eq (s : RS) (all : List Int) : F50_0 (s, all) = some ((endS0 all.length s).2.2, (endS0 all.length s, all)) := by
  unfold F50_0 endS0
  by_cases c : s.1 < (all.length : Int)
  · rw [if_pos c, decide_eq_true c, cond_true, fail_eq]; rfl
  · rw [if_neg c, decide_eq_false c, cond_false]
/-! ### What stays right -/
theorem numS_ok {all : List Int} {s : RS} (hs : SOk all.length s) : SOk all.length (numS all s).2 := by
  unfold numS
  split
  · rename_i h; exact (wordS_fail hs h).2
  · rename_i h; exact (wordS_ok hs (by omega) h).2.2.2
theorem countS_ok {all : List Int} {lo hi : Int} {s : RS} (hs : SOk all.length s) : SOk all.length (countS all lo hi s).2 := by
  unfold countS
  split
  · rename_i h; exact (wordS_fail hs h).2
  · rename_i t h
    have h2 := (wordS_ok hs (by omega) h).2.2.2
    split
    · exact failS_ok h2 (by unfold SOk at h2; omega)
    · exact h2
theorem flagS_ok {all : List Int} {s : RS} (hs : SOk all.length s) : SOk all.length (flagS all s).2 := by
  unfold flagS
  split
  · rename_i h; exact (wordS_fail hs h).2
  · rename_i t h
    have h2 := (wordS_ok hs (by omega) h).2.2.2
    split
    · exact failS_ok h2 (by unfold SOk at h2; omega)
    · exact h2
theorem markS_ok {all mk : List Int} {s : RS} (hs : SOk all.length s) : SOk all.length (markS all mk s) := by
  unfold markS
  split
  · rename_i h; exact (wordS_fail hs h).2
  · rename_i t h
    have h2 := (wordS_ok hs (by omega) h).2.2.2
    split
    · exact h2
    · exact failS_ok h2 (by unfold SOk at h2; omega)
theorem endS_ok {L : Int} {s : RS} (hs : SOk L s) : SOk L (endS0 L s) := by
  unfold endS0
  split
  · exact failS_ok hs (by unfold SOk at hs; omega)
  · exact hs
/-- What was right ahead of a read that is right behind it. -/
theorem countS_in {all : List Int} {lo hi : Int} {s : RS} (hs : SOk all.length s) (h : (countS all lo hi s).2.2.2.1 = 0) :
    s.2.2.1 = 0 ∧ s.1 + 2 ≤ all.length ∧ lo ≤ (countS all lo hi s).1 ∧ (countS all lo hi s).1 ≤ hi ∧ (countS all lo hi s).1 = leV (wdS all s.1.toNat 2) ∧ (countS all lo hi s).2 = (s.1 + 2, (s.1, s.2.2)) := by
  unfold countS at h ⊢
  cases hw : wordS all.length 2 s with
  | inl t => rw [hw] at h; exact absurd h (wordS_fail hs hw).1
  | inr t =>
    rw [hw] at h
    simp only [] at h ⊢
    obtain ⟨h1, h2, h3, h4⟩ := wordS_ok hs (by omega) hw
    by_cases c : leV (wdS all s.1.toNat 2) < lo ∨ leV (wdS all s.1.toNat 2) > hi
    · rw [if_pos c] at h; exact absurd h (failS_err (by decide) _)
    · rw [if_neg c]; exact ⟨h1, h2, by simp only []; omega, by simp only []; omega, rfl, h3⟩
theorem countS_go {all : List Int} {lo hi : Int} {s : RS} (h : s.2.2.1 = 0) (h2 : s.1 + 2 ≤ all.length) (hl : lo ≤ leV (wdS all s.1.toNat 2)) (hh : leV (wdS all s.1.toNat 2) ≤ hi) :
    countS all lo hi s = (leV (wdS all s.1.toNat 2), (s.1 + 2, (s.1, s.2.2))) := by
  unfold countS wordS
  rw [if_neg (by simp [h]), if_neg (by omega)]
  simp only []
  rw [if_neg (by omega)]
theorem flagS_in {all : List Int} {s : RS} (hs : SOk all.length s) (h : (flagS all s).2.2.2.1 = 0) :
    s.2.2.1 = 0 ∧ s.1 + 1 ≤ all.length ∧ all.getD s.1.toNat 0 ≤ 1 ∧ (flagS all s).1 = (all.getD s.1.toNat 0 == 1) ∧ (flagS all s).2 = (s.1 + 1, (s.1, s.2.2)) := by
  unfold flagS at h ⊢
  cases hw : wordS all.length 1 s with
  | inl t => rw [hw] at h; exact absurd h (wordS_fail hs hw).1
  | inr t =>
    rw [hw] at h
    simp only [] at h ⊢
    obtain ⟨h1, h2, h3, h4⟩ := wordS_ok hs (by omega) hw
    by_cases c : all.getD s.1.toNat 0 > 1
    · rw [if_pos c] at h; exact absurd h (failS_err (by decide) _)
    · rw [if_neg c]; exact ⟨h1, h2, by omega, rfl, h3⟩
theorem flagS_go {all : List Int} {s : RS} (h : s.2.2.1 = 0) (h2 : s.1 + 1 ≤ all.length) (hl : all.getD s.1.toNat 0 ≤ 1) :
    flagS all s = (all.getD s.1.toNat 0 == 1, (s.1 + 1, (s.1, s.2.2))) := by
  unfold flagS wordS
  rw [if_neg (by simp [h]), if_neg (by omega)]
  simp only []
  rw [if_neg (by omega)]
theorem numS_in {all : List Int} {s : RS} (hs : SOk all.length s) (h : (numS all s).2.2.2.1 = 0) :
    s.2.2.1 = 0 ∧ s.1 + 8 ≤ all.length ∧ (numS all s).1 = IntKind.wrap .i64 (leV (wdS all s.1.toNat 8)) ∧ (numS all s).2 = (s.1 + 8, (s.1, s.2.2)) := by
  unfold numS at h ⊢
  cases hw : wordS all.length 8 s with
  | inl t => rw [hw] at h; exact absurd h (wordS_fail hs hw).1
  | inr t =>
    obtain ⟨h1, h2, h3, h4⟩ := wordS_ok hs (by omega) hw
    exact ⟨h1, h2, rfl, h3⟩
theorem numS_go {all : List Int} {s : RS} (h : s.2.2.1 = 0) (h2 : s.1 + 8 ≤ all.length) : numS all s = (IntKind.wrap .i64 (leV (wdS all s.1.toNat 8)), (s.1 + 8, (s.1, s.2.2))) := by
  unfold numS wordS
  rw [if_neg (by simp [h]), if_neg (by omega)]
theorem markS_in {all mk : List Int} {s : RS} (hs : SOk all.length s) (h : (markS all mk s).2.2.1 = 0) : s.2.2.1 = 0 ∧ s.1 + 4 ≤ all.length ∧ wdS all s.1.toNat 4 = mk ∧ markS all mk s = (s.1 + 4, (s.1, s.2.2)) := by
  unfold markS at h ⊢
  cases hw : wordS all.length 4 s with
  | inl t => rw [hw] at h; exact absurd h (wordS_fail hs hw).1
  | inr t =>
    rw [hw] at h
    simp only [] at h ⊢
    obtain ⟨h1, h2, h3, h4⟩ := wordS_ok hs (by omega) hw
    by_cases c : wdS all s.1.toNat 4 = mk
    · rw [if_pos c]; exact ⟨h1, h2, c, h3⟩
    · rw [if_neg c] at h; exact absurd h (failS_err (by decide) _)
theorem markS_go {all mk : List Int} {s : RS} (h : s.2.2.1 = 0) (h2 : s.1 + 4 ≤ all.length) (hm : wdS all s.1.toNat 4 = mk) : markS all mk s = (s.1 + 4, (s.1, s.2.2)) := by
  unfold markS wordS
  rw [if_neg (by simp [h]), if_neg (by omega)]
  simp only []
  rw [if_pos hm]
end Go.Proofs.Ytfhhpfhmplgndaa.Ev
