/- Bytes, word by word: what the program puts and what the document puts. -/
import Derived.Test.YtfhhpfhmplgndaaMNum
import Derived.Test.YtfhhpfhmplgndaaXFns
set_option linter.unusedVariables false
set_option linter.unusedSimpArgs false
namespace Go.Proofs.Ytfhhpfhmplgndaa.Ev
open Go

theorem wi64 {x : Int} (h : -9223372036854775808 ≤ x ∧ x ≤ 9223372036854775807) : IntKind.wrap .i64 x = x := by rw [IntKind.wrap_i64]; omega
theorem chkT {p : Prop} [Decidable p] (h : p) {α : Type} (f : Unit → Option α) : (chk (decide p)).bind f = f () := by rw [decide_eq_true h]; rfl
/-- Bytes of a row make a string. -/
theorem strOf_ints (f : Int → List (AV G)) (h : ∀ n, f n = [.int .u8 n]) : ∀ xs : List Int, strOf f xs = some (xs.map fun n => UInt8.ofNat n.toNat) := by
  intro xs
  induction xs with
  | nil => rfl
  | cons x xs ih => simp only [strOf, h, byteOf, ih, List.map_cons]
/-- The lowest bytes of a number, the lowest first. -/
def leB : Nat → Int → List Int
  | 0, _ => []
  | k + 1, n => n % 256 :: leB k (n / 256)
theorem leB_len (k : Nat) : ∀ n, (leB k n).length = k := by induction k with | zero => intro n; rfl | succ k ih => intro n; simp [leB, ih]
theorem u8w (n : Int) : IntKind.wrap .u8 n = n % 256 := by rw [IntKind.wrap_u8]
theorem fdiv8 (x : Int) : Int.fdiv x (2 ^ 8) = x / 256 := fdiv_pow x 8
/-- So many bytes that all rows of bytes stay far below what fits. -/
def Small (b : List Int) : Prop := b.length ≤ 100000000
theorem chkB {xs ys : List Int} (hx : xs.length ≤ 200000000) (hy : ys.length ≤ 200000000) {α : Type} (f : Unit → Option α) : (chk (decide ((xs.length + ys.length) * 1 ≤ 140737488355328))).bind f = f () := chkT (by omega) f

theorem lowK (n : Nat) (v) : K76_0 (n + 1) v = B76_0_2 (K76_0 n) v := rfl
theorem low_go : ∀ (d i n : Nat) (x : Int) (b : List Int), d < n → i + d ≤ 1000 → b.length + d ≤ 100000100 → K76_0 n ((x, (((i + d : Nat) : Int), (i : Int))), b) = some (b ++ leB d x) := by
  intro d
  induction d with
  | zero =>
    intro i n x b hn hi hb
    obtain ⟨n, rfl⟩ : ∃ m, n = m + 1 := ⟨n - 1, by omega⟩
    rw [lowK]
    unfold B76_0_2
    rw [decide_eq_false (by simp), cond_false]
    simp [leB]
  | succ d ih =>
    intro i n x b hn hi hb
    obtain ⟨n, rfl⟩ : ∃ m, n = m + 1 := ⟨n - 1, by omega⟩
    rw [lowK]
    unfold B76_0_2
    rw [decide_eq_true (show ((i : Int)) < ((i + (d + 1) : Nat) : Int) by omega), cond_true]
    refine (chkB (xs := b) (by omega) (by simp) _).trans ?_
    simp only [u8w, fdiv8, wi64 (show -9223372036854775808 ≤ ((i : Int) + 1) ∧ ((i : Int) + 1) ≤ 9223372036854775807 by omega)]
    have := ih (i + 1) n (x / 256) (b ++ [x % 256]) (by omega) (by omega) (by simp; omega)
    rw [show i + 1 + d = i + (d + 1) by omega, show ((i + 1 : Nat) : Int) = (i : Int) + 1 by omega] at this
    rw [this, leB]
    simp
theorem low_eq8 (x : Int) {b : List Int} (hb : Small b) : F76_0 ((x, 8), b) = some (b ++ leB 8 x) := by
  unfold Small at hb
  exact low_go 8 0 1000 x b (by omega) (by omega) (by omega)
theorem low_eq2 (x : Int) {b : List Int} (hb : Small b) : F76_0 ((x, 2), b) = some (b ++ leB 2 x) := by
  unfold Small at hb
  exact low_go 2 0 1000 x b (by omega) (by omega) (by omega)
theorem onum_eq (x : Int) {b : List Int} (hb : Small b) : F37_0 (x, b) = some (b ++ leB 8 (IntKind.wrap .u64 x)) := by
  unfold F37_0
  simp only [low_eq8 _ hb, Option.bind_some]
def flagB (b : Bool) : List Int := [if b then 1 else 0]
/-- The document's bytes. -/
theorem rnumK (n : Nat) (v) : K42_0 (n + 1) v = B42_0_4 (K42_0 n) v := rfl
theorem rnum_go : ∀ (d i n : Nat) (x : Int) (b : List Int), d < n → i + d = 8 → U64 x → b.length = i → K42_0 n ((x, (i : Int)), b) = some (b ++ leB d x) := by
  intro d
  induction d with
  | zero =>
    intro i n x b hn hi hx hb
    obtain ⟨n, rfl⟩ : ∃ m, n = m + 1 := ⟨n - 1, by omega⟩
    rw [rnumK]
    unfold B42_0_4
    rw [decide_eq_false (by simp; omega), cond_false]
    simp [leB]
  | succ d ih =>
    intro i n x b hn hi hx hb
    obtain ⟨n, rfl⟩ : ∃ m, n = m + 1 := ⟨n - 1, by omega⟩
    unfold U64 at hx
    rw [rnumK]
    unfold B42_0_4
    rw [decide_eq_true (show ((i : Int)) < 8 by omega), cond_true]
    refine (chkB (xs := b) (by omega) (by simp) _).trans ?_
    have e : IntKind.wrap .u64 (x / 256) = x / 256 := wrap_u64 (by unfold U64; omega)
    simp only [u8w, tmod_nn hx.1, tdiv_nn hx.1, e, wi64 (show -9223372036854775808 ≤ ((i : Int) + 1) ∧ ((i : Int) + 1) ≤ 9223372036854775807 by omega)]
    have := ih (i + 1) n (x / 256) (b ++ [x % 256]) (by omega) (by omega) (by unfold U64; omega) (by simp; omega)
    rw [show ((i + 1 : Nat) : Int) = (i : Int) + 1 by omega] at this
    rw [Int.emod_emod_of_dvd _ (by decide : (256 : Int) ∣ 256), this, leB]
    simp
theorem rnum_eq (x : Int) : F42_0 x = some (leB 8 (IntKind.wrap .u64 x)) := by
  have := rnum_go 8 0 1000 (IntKind.wrap .u64 x) [] (by omega) (by omega) (wrap_u64_u64 x) rfl
  rw [List.nil_append] at this
  exact this
end Go.Proofs.Ytfhhpfhmplgndaa.Ev
