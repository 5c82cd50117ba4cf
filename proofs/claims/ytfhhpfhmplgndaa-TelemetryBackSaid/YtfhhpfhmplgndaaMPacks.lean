/- Chapter 41: which bytes samples have. -/
import Derived.Test.YtfhhpfhmplgndaaMWireR
import Derived.Laws.BitsAllLaws
import Derived.Laws.DeepNot64
set_option linter.unusedVariables false
set_option linter.unusedSimpArgs false
namespace Go.Proofs.Ytfhhpfhmplgndaa.Ev
open Go

theorem u8_or128 {x : Int} (h0 : 0 ≤ x) (h1 : x ≤ 255) : bits .or .u8 x 128 = x % 128 + 128 := by
  obtain ⟨n, rfl⟩ := Int.eq_ofNat_of_zero_le h0
  have hn : n < 256 := by omega
  have e : (128 : Int) = ((128 : Nat) : Int) := rfl
  rw [e, u8_or_nat n 128 hn (by decide)]
  have : n ||| 128 = n % 128 + 128 := (by decide +kernel : ∀ n, n < 256 → n ||| 128 = n % 128 + 128) n hn
  rw [this]; rfl
theorem u8_not128 {x : Int} (h0 : 0 ≤ x) (h1 : x ≤ 255) : bits .andNot .u8 x 128 = x % 128 := by
  obtain ⟨n, rfl⟩ := Int.eq_ofNat_of_zero_le h0
  have hn : n < 256 := by omega
  have e : (128 : Int) = ((128 : Nat) : Int) := rfl
  rw [e, u8_andNot_nat n 128 hn (by decide)]
  have : n &&& (255 - 128) = n % 128 := (by decide +kernel : ∀ n, n < 256 → n &&& (255 - 128) = n % 128) n hn
  rw [this]; rfl
theorem u64_xor0 {x : Int} (h : U64 x) : bits .xor .u64 x 0 = x := by
  unfold U64 at h
  obtain ⟨n, rfl⟩ := Int.eq_ofNat_of_zero_le h.1
  have e : (0 : Int) = ((0 : Nat) : Int) := rfl
  rw [e, u64_xor_nat n 0 (by omega) (by decide), Nat.xor_zero]
theorem nat_xor_ones {n : Nat} (h : n < 18446744073709551616) : n ^^^ 18446744073709551615 = 18446744073709551615 - n := by
  have h1 : (BitVec.ofNat 64 n ^^^ BitVec.allOnes 64).toNat = n ^^^ 18446744073709551615 := by
    rw [BitVec.toNat_xor, BitVec.toNat_ofNat, Nat.mod_eq_of_lt h]; rfl
  rw [← h1, BitVec.xor_allOnes, BitVec.toNat_not, BitVec.toNat_ofNat, Nat.mod_eq_of_lt h]
theorem u64_xor1 {x : Int} (h : U64 x) : bits .xor .u64 x 18446744073709551615 = 18446744073709551615 - x := by
  unfold U64 at h
  obtain ⟨n, rfl⟩ := Int.eq_ofNat_of_zero_le h.1
  have e : (18446744073709551615 : Int) = ((18446744073709551615 : Nat) : Int) := rfl
  rw [e, u64_xor_nat n _ (by omega) (by decide), nat_xor_ones (by omega)]
  omega
theorem i64_xor0 {x : Int} (h : I64 x) : bits .xor .i64 x 0 = x := by
  have : bits .xor .i64 x 0 = IntKind.i64.wrap ((BitVec.ofInt 64 x ^^^ BitVec.ofInt 64 0).toNat : Nat) := rfl
  rw [this, show BitVec.ofInt 64 0 = BitVec.ofNat 64 0 from rfl, BitVec.xor_zero, BitVec.toNat_ofInt, IntKind.wrap_i64]
  unfold I64 at h
  omega
theorem i64_xor1 {x : Int} (h0 : 0 ≤ x) (h1 : x ≤ 9223372036854775807) : bits .xor .i64 x (-1) = -1 - x := by
  obtain ⟨n, rfl⟩ := Int.eq_ofNat_of_zero_le h0
  have hc : bits .xor .i64 (n : Int) (-1) = bits .xor .i64 (-1) (n : Int) := by simp only [bits, BitVec.xor_comm]
  rw [hc, i64_not n (by omega)]
/-- A number, its sign behind. -/
def zz (n : Int) : Int := if 0 ≤ n then 2 * n else -2 * n - 1
theorem zz_u64 {n : Int} (h : I64 n) : U64 (zz n) := by unfold I64 at h; unfold zz U64; split <;> omega
/-- A number's groups of 7 bits, the lowest first. -/
def vb : Nat → Int → List Int
  | 0, u => [u]
  | k + 1, u => if 128 ≤ u then (u % 128 + 128) :: vb k (u / 128) else [u]
theorem vb_len : ∀ (k : Nat) (u : Int), 1 ≤ (vb k u).length ∧ (vb k u).length ≤ k + 1 := by
  intro k
  induction k with
  | zero => intro u; simp [vb]
  | succ k ih =>
    intro u
    simp only [vb]
    split
    · have := ih (u / 128); simp; omega
    · simp
theorem zz_prog {n : Int} (h : I64 n) : bits .xor .u64 (IntKind.wrap .u64 (IntKind.wrap .i64 (n * 2 ^ 1))) (IntKind.wrap .u64 (Int.fdiv n (2 ^ 63))) = zz n := by
  have h' := h
  unfold I64 at h'
  rw [fdiv63]
  unfold zz
  by_cases hn : 0 ≤ n
  · rw [if_pos hn, show n / 9223372036854775808 = 0 by omega, show IntKind.wrap .u64 0 = 0 from rfl]
    have e : IntKind.wrap .u64 (IntKind.wrap .i64 (n * 2 ^ 1)) = 2 * n := by
      rw [IntKind.wrap_i64, IntKind.wrap_u64]; omega
    rw [e, u64_xor0 (by unfold U64; omega)]
  · rw [if_neg hn, show n / 9223372036854775808 = -1 by omega, show IntKind.wrap .u64 (-1) = 18446744073709551615 from rfl]
    have e : IntKind.wrap .u64 (IntKind.wrap .i64 (n * 2 ^ 1)) = 18446744073709551616 + 2 * n := by
      rw [IntKind.wrap_i64, IntKind.wrap_u64]; omega
    rw [e, u64_xor1 (by unfold U64; omega)]
    omega
theorem pshK (n : Nat) (v) : K38_0 (n + 1) v = B38_0_2 (K38_0 n) v := rfl
theorem psh_go : ∀ (k n : Nat) (u : Int) (b : List Int), k < n → 0 ≤ u → u < 128 ^ (k + 1) → b.length + k ≤ 100000100 → K38_0 n (u, b) = some (b ++ vb k u) := by
  intro k
  induction k with
  | zero =>
    intro n u b hn h0 h1 hb
    obtain ⟨n, rfl⟩ : ∃ m, n = m + 1 := ⟨n - 1, by omega⟩
    rw [pshK]
    unfold B38_0_2
    rw [decide_eq_false (by simp only []; omega), cond_false]
    refine (chkB (xs := b) (by omega) (by simp) _).trans ?_
    simp only [u8w, vb]
    rw [show u % 256 = u by omega]
  | succ k ih =>
    intro n u b hn h0 h1 hb
    obtain ⟨n, rfl⟩ : ∃ m, n = m + 1 := ⟨n - 1, by omega⟩
    rw [pshK]
    unfold B38_0_2
    by_cases c : 128 ≤ u
    · rw [decide_eq_true (show u ≥ 128 from c), cond_true]
      refine (chkB (xs := b) (by omega) (by simp) _).trans ?_
      simp only [u8w, fdiv_pow]
      rw [u8_or128 (x := u % 256) (by omega) (by omega), show (2 : Int) ^ 7 = 128 from rfl]
      have hp : (128 : Int) ^ (k + 1 + 1) = 128 ^ (k + 1) * 128 := Int.pow_succ _ _
      have hp0 : (0 : Int) < 128 ^ (k + 1) := Int.pow_pos (by decide)
      rw [ih n (u / 128) _ (by omega) (by omega) (by generalize (128 : Int) ^ (k + 1) = z at hp hp0 ⊢; omega) (by simp; omega)]
      simp only [vb]
      rw [if_pos c, show u % 256 % 128 = u % 128 by omega]
      simp
    · rw [decide_eq_false (show ¬ u ≥ 128 from c), cond_false]
      refine (chkB (xs := b) (by omega) (by simp) _).trans ?_
      simp only [u8w, vb]
      rw [if_neg c, show u % 256 = u by omega]
theorem pshort_eq {n : Int} (h : I64 n) {b : List Int} (hb : b.length ≤ 100000000) : F38_0 (n, b) = some (b ++ vb 9 (zz n)) := by
  have hz := zz_u64 h
  unfold U64 at hz
  have := psh_go 9 1000 (zz n) b (by omega) hz.1 (by omega) (by omega)
  unfold F38_0 E38_0
  simp only [zz_prog h]
  exact this
theorem rshK (n : Nat) (v) : K43_0 (n + 1) v = B43_0_5 (K43_0 n) v := rfl
theorem rsh_go : ∀ (k n : Nat) (u : Int) (b : List Int), k < n → 0 ≤ u → u < 128 ^ (k + 1) → u < 18446744073709551616 → b.length + k ≤ 1000 → K43_0 n (u, b) = some (b ++ vb k u) := by
  intro k
  induction k with
  | zero =>
    intro n u b hn h0 h1 h2 hb
    obtain ⟨n, rfl⟩ : ∃ m, n = m + 1 := ⟨n - 1, by omega⟩
    rw [rshK]
    unfold B43_0_5
    rw [decide_eq_false (by simp only []; omega), cond_false]
    refine (chkB (xs := b) (by omega) (by simp) _).trans ?_
    simp only [u8w, vb]
    rw [show u % 256 = u by omega]
  | succ k ih =>
    intro n u b hn h0 h1 h2 hb
    obtain ⟨n, rfl⟩ : ∃ m, n = m + 1 := ⟨n - 1, by omega⟩
    rw [rshK]
    unfold B43_0_5
    by_cases c : 128 ≤ u
    · rw [decide_eq_true (show u ≥ 128 from c), cond_true]
      refine (chkB (xs := b) (by omega) (by simp) _).trans ?_
      have e1 : IntKind.wrap .u64 (u % 128 + 128) = u % 128 + 128 := wrap_u64 (by unfold U64; omega)
      have e2 : IntKind.wrap .u64 (u / 128) = u / 128 := wrap_u64 (by unfold U64; omega)
      simp only [u8w, tmod_nn h0, tdiv_nn h0, e1, e2]
      have hp : (128 : Int) ^ (k + 1 + 1) = 128 ^ (k + 1) * 128 := Int.pow_succ _ _
      have hp0 : (0 : Int) < 128 ^ (k + 1) := Int.pow_pos (by decide)
      rw [ih n (u / 128) _ (by omega) (by omega) (by generalize (128 : Int) ^ (k + 1) = z at hp hp0 ⊢; omega) (by omega) (by simp; omega)]
      simp only [vb]
      rw [if_pos c, show (u % 128 + 128) % 256 = u % 128 + 128 by omega]
      simp
    · rw [decide_eq_false (show ¬ u ≥ 128 from c), cond_false]
      refine (chkB (xs := b) (by omega) (by simp) _).trans ?_
      simp only [u8w, vb]
      rw [if_neg c, show u % 256 = u by omega]
theorem rshort_eq {n : Int} (h : I64 n) : F43_0 n = some (vb 9 (zz n)) := by
  have hz := zz_u64 h
  have h' := h
  unfold I64 at h'
  unfold U64 at hz
  have := rsh_go 9 1000 (zz n) [] (by omega) hz.1 (by omega) (by omega) (by simp)
  rw [List.nil_append] at this
  unfold F43_0 E43_0
  by_cases c : n < 0
  · rw [decide_eq_true c, cond_true]
    have e : IntKind.wrap .u64 (IntKind.wrap .u64 (IntKind.wrap .u64 (IntKind.wrap .i64 (0 - IntKind.wrap .i64 (n + 1))) * 2) + 1) = zz n := by
      unfold zz
      rw [if_neg (by omega), wi64 (show -9223372036854775808 ≤ n + 1 ∧ n + 1 ≤ 9223372036854775807 by omega), wi64 (show -9223372036854775808 ≤ 0 - (n + 1) ∧ 0 - (n + 1) ≤ 9223372036854775807 by omega),
        wrap_u64 (show U64 (0 - (n + 1)) by unfold U64; omega), wrap_u64 (show U64 ((0 - (n + 1)) * 2) by unfold U64; omega), wrap_u64 (show U64 ((0 - (n + 1)) * 2 + 1) by unfold U64; omega)]
      omega
    simp only [e]
    exact this
  · rw [decide_eq_false c, cond_false]
    have e : IntKind.wrap .u64 (IntKind.wrap .u64 n * 2) = zz n := by
      unfold zz
      rw [if_pos (by omega), wrap_u64 (show U64 n by unfold U64; omega), wrap_u64 (show U64 (n * 2) by unfold U64; omega)]
      omega
    simp only [e]
    exact this
/-! ### Channels -/
abbrev Smp : Type := Int × Int × Int × Int × Int × Int × Int × Int
def getc (x : Smp) (c : Nat) : Int := List.getD [x.1, x.2.1, x.2.2.1, x.2.2.2.1, x.2.2.2.2.1, x.2.2.2.2.2.1, x.2.2.2.2.2.2.1, x.2.2.2.2.2.2.2] c 0
def colB (c : Nat) : Int → List Smp → List Int
  | _, [] => []
  | last, x :: r => vb 9 (zz (IntKind.wrap .i64 (getc x c - last))) ++ colB c (getc x c) r
theorem colB_len (c : Nat) : ∀ (l : List Smp) (last : Int), (colB c last l).length ≤ 10 * l.length := by
  intro l
  induction l with
  | nil => intro last; simp [colB]
  | cons x l ih =>
    intro last
    simp only [colB, List.length_append, List.length_cons]
    have := ih (getc x c)
    have := (vb_len 9 (zz (IntKind.wrap .i64 (getc x c - last)))).2
    omega
def allB (l : List Smp) : Nat → Nat → List Int
  | 0, _ => []
  | e + 1, c => colB c 0 l ++ allB l e (c + 1)
theorem allB_len (l : List Smp) : ∀ (e c : Nat), (allB l e c).length ≤ 10 * l.length * e := by
  intro e
  induction e with
  | zero => intro c; simp [allB]
  | succ e ih =>
    intro c
    simp only [allB, List.length_append]
    have := ih (c + 1)
    have := colB_len c l 0
    rw [Nat.mul_succ]; omega
theorem tidx {i n : Nat} (h : i < n) : idx (i : Int) n = some i := by unfold idx; rw [decide_eq_true (by omega)]; simp
theorem trdx {α : Type} {l : List α} {i : Nat} (h : i < l.length) : rdx l (i : Int) = some l[i] := by
  unfold rdx
  rw [decide_eq_true (by omega)]
  simp [List.getElem?_eq_getElem h]
theorem pkK1 (n : Nat) (v) : (K18_0 (n + 1)).1 v = B18_0_6 (K18_0 n) v := rfl
theorem pkK2 (n : Nat) (v) : (K18_0 (n + 1)).2 v = B18_0_10 (K18_0 n) v := rfl
theorem pk_in {l : List Smp} (c : Nat) (hc : c < 8) (hl : l.length ≤ 6000) (hd : List Int) : ∀ (d i f : Nat) (last : Int) (b : List Int), i + d = l.length → b.length + 10 * d ≤ 10000000 →
    (K18_0 (f + d + 1)).2 ((l, ((c : Int), (last, ((c : Int), (l, ((l.length : Int), (i : Int))))))), (b, hd)) = (K18_0 f).1 ((l, ((c + 1 : Nat) : Int)), (b ++ colB c last (l.drop i), hd)) := by
  intro d
  induction d with
  | zero =>
    intro i f last b hi hb
    rw [Nat.add_zero, pkK2]
    unfold B18_0_10
    rw [decide_eq_false (by simp only []; omega), cond_false, List.drop_eq_nil_of_le (by omega)]
    simp only [wi64 (show -9223372036854775808 ≤ (c : Int) + 1 ∧ (c : Int) + 1 ≤ 9223372036854775807 by omega), colB, List.append_nil]
    rfl
  | succ d ih =>
    intro i f last b hi hb
    have hil : i < l.length := by omega
    rw [show f + (d + 1) + 1 = (f + d + 1) + 1 by omega, pkK2]
    unfold B18_0_10
    rw [decide_eq_true (by simp only []; omega), cond_true, List.drop_eq_getElem_cons hil]
    simp only [trdx hil, Option.bind_some, tidx hc]
    have hw := wrap_i64_i64 (getc l[i] c - last)
    rw [show IntKind.wrap .i64 ((List.getD [l[i].1, l[i].2.1, l[i].2.2.1, l[i].2.2.2.1, l[i].2.2.2.2.1, l[i].2.2.2.2.2.1, l[i].2.2.2.2.2.2.1, l[i].2.2.2.2.2.2.2] c 0) - last) = IntKind.wrap .i64 (getc l[i] c - last) from rfl]
    rw [pshort_eq hw (by omega), Option.bind_some]
    simp only [wi64 (show -9223372036854775808 ≤ (i : Int) + 1 ∧ (i : Int) + 1 ≤ 9223372036854775807 by omega)]
    have hv := (vb_len 9 (zz (IntKind.wrap .i64 (getc l[i] c - last)))).2
    have := ih (i + 1) f (getc l[i] c) (b ++ vb 9 (zz (IntKind.wrap .i64 (getc l[i] c - last)))) (by omega) (by simp; omega)
    rw [show ((i + 1 : Nat) : Int) = (i : Int) + 1 by omega] at this
    refine this.trans ?_
    simp only [colB, List.append_assoc]
def mkT : List Int := [67, 72, 84, 76]
theorem markedT : F75_0 sc0 = some (67, (72, (84, 76))) := by kernel_rfl
def headT (k : Nat) : List Int := mkT ++ leB 8 (IntKind.wrap .u64 (k : Int))
theorem headT_len (k : Nat) : (headT k).length = 12 := by simp [headT, mkT, leB_len]
theorem tclone_eq {v : List Int} (h : v.length ≤ 140737488355328) : F77_0 v = some v := by
  show (chk _).bind _ = _
  rw [chkT (by simp; omega)]; rfl
theorem tbytes_eq {v : List Int} (h : v.length ≤ 140737488355328) : F40_0 v = some (v, v) := by
  unfold F40_0
  rw [tclone_eq h]; rfl
theorem raw_eq {a b : List Int} (ha : a.length ≤ 100000000) (hb : b.length ≤ 100000000) : F39_0 (a, b) = some (b ++ a) := by
  unfold F39_0
  exact chkB (xs := b) (by omega) (by simp only []; omega) _
theorem pk_out {l : List Smp} (hl : l.length ≤ 6000) (hd : List Int) (hh : hd.length = 12) : ∀ (e c f : Nat) (b : List Int), c + e = 8 → e * (l.length + 2) < f → b.length + 10 * l.length * e ≤ 1000000 →
    (K18_0 f).1 ((l, (c : Int)), (b, hd)) = some (hd ++ (b ++ allB l e c)) := by
  intro e
  induction e with
  | zero =>
    intro c f b hc hf hb
    obtain ⟨f, rfl⟩ : ∃ m, f = m + 1 := ⟨f - 1, by omega⟩
    rw [pkK1]
    unfold B18_0_6
    rw [decide_eq_false (by simp only []; omega), cond_false]
    simp only []
    rw [raw_eq (by omega) (by omega), Option.bind_some, tbytes_eq (by simp; omega)]
    simp [allB]
  | succ e ih =>
    intro c f b hc hf hb
    rw [Nat.succ_mul] at hf
    obtain ⟨f, rfl⟩ : ∃ m, f = m + l.length + 1 + 1 := ⟨f - l.length - 2, by omega⟩
    rw [pkK1]
    unfold B18_0_6
    rw [decide_eq_true (by simp only []; omega), cond_true]
    rw [Nat.mul_succ] at hb
    refine (pk_in c (by omega) hl hd l.length 0 f 0 b (by omega) (by omega)).trans ?_
    rw [List.drop_zero]
    have hcl := colB_len c l 0
    rw [ih (c + 1) f _ (by omega) (by omega) (by simp; omega)]
    simp [allB]
def packS (l : List Smp) : List Int := headT l.length ++ allB l 8 0
theorem pack_eq {l : List Smp} (hl : l.length ≤ 900) : F18_0 l = some (packS l) := by
  unfold F18_0 E18_0
  have e1 : F36_0 (sc0, ([] : List Int)) = some mkT := by
    unfold F36_0
    rw [markedT]
    rfl
  rw [e1, Option.bind_some, onum_eq _ (by unfold Small mkT; simp), Option.bind_some]
  exact pk_out (by omega) (headT l.length) (headT_len _) 8 0 8000 [] (by omega) (by omega) (by simp; omega)
theorem rpkK1 (n : Nat) (v) : (K19_0 (n + 1)).1 v = B19_0_3 (K19_0 n) v := rfl
theorem rpkK2 (n : Nat) (v) : (K19_0 (n + 1)).2 v = B19_0_7 (K19_0 n) v := rfl
theorem rpk_in {l : List Smp} (c : Nat) (hc : c < 8) (hl : l.length ≤ 6000) : ∀ (d i f : Nat) (last : Int) (b : List Int), i + d = l.length → b.length + 10 * d ≤ 10000000 →
    (K19_0 (f + d + 1)).2 ((l, ((c : Int), (last, (i : Int)))), b) = (K19_0 f).1 ((l, ((c + 1 : Nat) : Int)), b ++ colB c last (l.drop i)) := by
  intro d
  induction d with
  | zero =>
    intro i f last b hi hb
    rw [Nat.add_zero, rpkK2]
    unfold B19_0_7
    rw [decide_eq_false (by simp only []; omega), cond_false, List.drop_eq_nil_of_le (by omega)]
    simp only [wi64 (show -9223372036854775808 ≤ (c : Int) + 1 ∧ (c : Int) + 1 ≤ 9223372036854775807 by omega), colB, List.append_nil]
    rfl
  | succ d ih =>
    intro i f last b hi hb
    have hil : i < l.length := by omega
    rw [show f + (d + 1) + 1 = (f + d + 1) + 1 by omega, rpkK2]
    unfold B19_0_7
    rw [decide_eq_true (by simp only []; omega), cond_true, List.drop_eq_getElem_cons hil]
    simp only [trdx hil, Option.bind_some, tidx hc]
    have hw := wrap_i64_i64 (getc l[i] c - last)
    have hv := (vb_len 9 (zz (IntKind.wrap .i64 (getc l[i] c - last)))).2
    rw [show IntKind.wrap .i64 ((List.getD [l[i].1, l[i].2.1, l[i].2.2.1, l[i].2.2.2.1, l[i].2.2.2.2.1, l[i].2.2.2.2.2.1, l[i].2.2.2.2.2.2.1, l[i].2.2.2.2.2.2.2] c 0) - last) = IntKind.wrap .i64 (getc l[i] c - last) from rfl]
    rw [rshort_eq hw, Option.bind_some]
    refine (chkB (xs := b) (by omega) (by omega) _).trans ?_
    simp only [wi64 (show -9223372036854775808 ≤ (i : Int) + 1 ∧ (i : Int) + 1 ≤ 9223372036854775807 by omega)]
    have := ih (i + 1) f (getc l[i] c) (b ++ vb 9 (zz (IntKind.wrap .i64 (getc l[i] c - last)))) (by omega) (by simp; omega)
    rw [show ((i + 1 : Nat) : Int) = (i : Int) + 1 by omega] at this
    refine this.trans ?_
    simp only [colB, List.append_assoc]
theorem rpk_out {l : List Smp} (hl : l.length ≤ 6000) : ∀ (e c f : Nat) (b : List Int), c + e = 8 → e * (l.length + 2) < f → b.length + 10 * l.length * e ≤ 1000000 →
    (K19_0 f).1 ((l, (c : Int)), b) = some (b ++ allB l e c) := by
  intro e
  induction e with
  | zero =>
    intro c f b hc hf hb
    obtain ⟨f, rfl⟩ : ∃ m, f = m + 1 := ⟨f - 1, by omega⟩
    rw [rpkK1]
    unfold B19_0_3
    rw [decide_eq_false (by simp only []; omega), cond_false]
    simp [allB]
  | succ e ih =>
    intro c f b hc hf hb
    rw [Nat.succ_mul] at hf
    obtain ⟨f, rfl⟩ : ∃ m, f = m + l.length + 1 + 1 := ⟨f - l.length - 2, by omega⟩
    rw [rpkK1]
    unfold B19_0_3
    rw [decide_eq_true (by simp only []; omega), cond_true]
    rw [Nat.mul_succ] at hb
    refine (rpk_in c (by omega) hl l.length 0 f 0 b (by omega) (by omega)).trans ?_
    rw [List.drop_zero]
    have hcl := colB_len c l 0
    rw [ih (c + 1) f _ (by omega) (by omega) (by simp; omega)]
    simp [allB]
theorem rmarkT : F41_0 sc0 = some mkT := by kernel_rfl
theorem rpack_eq {l : List Smp} (hl : l.length ≤ 400) : F19_0 l = some (packS l) := by
  unfold F19_0 E19_0
  rw [rmarkT, Option.bind_some, rnum_eq, Option.bind_some]
  refine (chkB (by simp [mkT]) (by simp [leB_len]) _).trans ?_
  exact rpk_out (by omega) 8 0 4000 (headT l.length) (by omega) (by omega) (by rw [headT_len]; omega)
theorem plK (n : Nat) (v) : K20_0 (n + 1) v = B20_0_3 (K20_0 n) v := rfl
theorem pl_go {l : List Smp} (hl : l.length ≤ 900) : ∀ (d i n : Nat), d < n → i + d = l.length → K20_0 n ((l, (i : Int)), l.take i) = some l := by
  intro d
  induction d with
  | zero =>
    intro i n hn hi
    obtain ⟨n, rfl⟩ : ∃ m, n = m + 1 := ⟨n - 1, by omega⟩
    rw [plK]
    unfold B20_0_3
    rw [decide_eq_false (by simp only []; omega), cond_false, List.take_of_length_le (by omega)]
  | succ d ih =>
    intro i n hn hi
    obtain ⟨n, rfl⟩ : ∃ m, n = m + 1 := ⟨n - 1, by omega⟩
    have hil : i < l.length := by omega
    rw [plK]
    unfold B20_0_3
    rw [decide_eq_true (by simp only []; omega), cond_true]
    simp only [trdx hil, Option.bind_some]
    refine (chkT (by simp; omega) _).trans ?_
    simp only [wi64 (show -9223372036854775808 ≤ (i : Int) + 1 ∧ (i : Int) + 1 ≤ 9223372036854775807 by omega)]
    have := ih (i + 1) n (by omega) (by omega)
    rw [show ((i + 1 : Nat) : Int) = (i : Int) + 1 by omega, List.take_add_one, List.getElem?_eq_getElem hil] at this
    exact this
theorem plain_eq {l : List Smp} (hl : l.length ≤ 900) : F20_0 l = some l := pl_go hl l.length 0 1000 (by omega) (by omega)
theorem awakeT : F17_0 () = some true := by kernel_rfl
theorem law6_0 (v) (h : Dom6_0 v) : F6_0 v = some true := by
  unfold F6_0
  by_cases hl : (v.length : Int) > 200
  · rw [decide_eq_true hl]; rfl
  · rw [decide_eq_false hl, cond_false, pack_eq (show v.length ≤ 900 by omega), Option.bind_some]
    rw [show strOf (E.enc 5) (packS v) = some _ from strOf_ints _ (fun _ => rfl) _]
    simp only [Option.bind_some, plain_eq (show v.length ≤ 900 by omega), rpack_eq (show v.length ≤ 400 by omega)]
    rw [show strOf (E.enc 5) (packS v) = some _ from strOf_ints _ (fun _ => rfl) _]
    simp only [Option.bind_some, str_beq, decide_true, cond_true, awakeT]
end Go.Proofs.Ytfhhpfhmplgndaa.Ev
