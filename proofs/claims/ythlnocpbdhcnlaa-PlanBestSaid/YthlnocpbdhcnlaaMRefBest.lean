/- The document's best plan: the loops. -/
import Derived.Test.YthlnocpbdhcnlaaMSets
set_option linter.unusedVariables false
set_option linter.unusedSimpArgs false
namespace Go.Proofs.Ythlnocpbdhcnlaa.Ev
open Go
theorem K40_eq (a b : List Int) (hab : a.length = b.length) (hl : a.length ≤ 200) : ∀ (d i n : Nat), a.length - i = d → i ≤ a.length → d < n → K40_0 n (a, (b, (i : Int))) = some (lexGt (a.drop i) (b.drop i)) := by
  intro d
  induction d with
  | zero =>
    intro i n h1 h2 h3
    obtain ⟨n, rfl⟩ : ∃ k, n = k + 1 := ⟨n - 1, by omega⟩
    obtain rfl : i = a.length := by omega
    have hlt : decide ((a.length : Int) < (a.length : Int)) = false := by simp
    show B40_0_6 (K40_0 n) _ = _
    simp only [B40_0_6, hlt, List.drop_length, lexGt]
  | succ d ih =>
    intro i n h1 h2 h3
    obtain ⟨n, rfl⟩ : ∃ k, n = k + 1 := ⟨n - 1, by omega⟩
    have hi : i < a.length := by omega
    have hj : i < b.length := by omega
    have hlt : decide ((i : Int) < (a.length : Int)) = true := by simp only [decide_eq_true_eq]; omega
    have hw : IntKind.wrap .i64 ((i : Int) + 1) = ((i + 1 : Nat) : Int) := by
      have h : IntKind.wrap .i64 ((i : Int) + 1) = (i : Int) + 1 := W_in _ (by omega) (by omega)
      rw [h]; rfl
    have da : a.drop i = a[i] :: a.drop (i + 1) := List.drop_eq_getElem_cons hi
    have db : b.drop i = b[i] :: b.drop (i + 1) := List.drop_eq_getElem_cons hj
    show B40_0_6 (K40_0 n) _ = _
    simp only [B40_0_6, hlt, rdx_nat, List.getElem?_eq_getElem hi, List.getElem?_eq_getElem hj, Option.bind_some, hw]
    rw [da, db]
    by_cases he : a[i] = b[i]
    · have : (a[i] != b[i]) = false := by simp [he]
      have hx : lexGt (a[i] :: a.drop (i + 1)) (b[i] :: b.drop (i + 1)) = lexGt (a.drop (i + 1)) (b.drop (i + 1)) := by simp only [lexGt, he, if_true]
      rw [hx]
      simp only [this]
      exact ih (i + 1) n (by omega) (by omega) (by omega)
    · have : (a[i] != b[i]) = true := by simp [he]
      simp only [this, lexGt, he, if_false]
theorem F40_eq (a b : List Int) (x y : Int) (ha : a.length ≤ 200) : F40_0 (a, (x, (b, y))) = some (betterB a x b y) := by
  show E40_0 (K40_0 1000) _ = _
  unfold betterB
  by_cases h1 : x = y
  · have e1 : (x != y) = false := by simp [h1]
    by_cases h2 : a.length = b.length
    · have e2 : ((a.length : Int) != (b.length : Int)) = false := by simp [h2]
      simp only [E40_0, e1, e2]
      rw [if_pos h1, if_pos h2]
      have := K40_eq a b h2 ha a.length 0 1000 (by omega) (by omega) (by omega)
      simpa using this
    · have e2 : ((a.length : Int) != (b.length : Int)) = true := by simp; omega
      simp only [E40_0, e1, e2]
      rw [if_pos h1, if_neg h2]
      congr 1
      simp
  · have e1 : (x != y) = true := by simp [h1]
    simp only [E40_0, e1]
    rw [if_neg h1]
theorem bit_eq (s j : Nat) (hj : j ≤ 60) : (Int.tmod (Int.fdiv (s : Int) (2 ^ min ((j : Nat) : Int).toNat 64)) 2 == 1) = s.testBit j := by
  have e : min ((j : Nat) : Int).toNat 64 = j := by omega
  rw [e, Nat.testBit_eq_decide_div_mod_eq]
  have e2 : (2 : Int) ^ j = ((2 ^ j : Nat) : Int) := by simp
  have e3 : Int.fdiv (s : Int) ((2 ^ j : Nat) : Int) = ((s / 2 ^ j : Nat) : Int) := by
    rw [Int.fdiv_eq_ediv_of_nonneg _ (Int.natCast_nonneg _)]; simp
  rw [e2, e3]
  have e4 : Int.tmod ((s / 2 ^ j : Nat) : Int) 2 = ((s / 2 ^ j % 2 : Nat) : Int) := by
    rw [Int.tmod_eq_emod_of_nonneg (Int.natCast_nonneg _)]; simp
  rw [e4]
  by_cases h : s / 2 ^ j % 2 = 1
  · simp [h]
  · have : s / 2 ^ j % 2 = 0 := by omega
    simp [this]
section
variable {base : Int} {old : List Int} {heavy stop most : Int}
/-- The inner loop: the laps of a set. -/
theorem loopSet (L : Nat) (h1 : 1 ≤ L) (h12 : L ≤ 12) (s : Nat) (time : Int) (found : Bool) (best : List Int) : ∀ (d k f : Nat), d = L - k → 1 ≤ k → k ≤ L →
    (K26_0 (f + d)).2 ((time, (found, ((s : Int), (k : Int)))), (planF s (k - 1) 0, (best, ((L : Int), base, old, heavy, stop, most)))) =
    (K26_0 f).2 ((time, (found, ((s : Int), (L : Int)))), (planF s (L - 1) 0, (best, ((L : Int), base, old, heavy, stop, most)))) := by
  intro d
  induction d with
  | zero => intro k f h2 h3 h4; obtain rfl : k = L := by omega
            rfl
  | succ d ih =>
    intro k f h2 h3 h4
    have hlt : decide ((k : Int) < (L : Int)) = true := by simp only [decide_eq_true_eq]; omega
    have w1 : IntKind.wrap .i64 ((k : Int) - 1) = ((k - 1 : Nat) : Int) := by
      have h : IntKind.wrap .i64 ((k : Int) - 1) = (k : Int) - 1 := W_in _ (by omega) (by omega)
      rw [h]; omega
    have w2 : IntKind.wrap .u64 ((k - 1 : Nat) : Int) = ((k - 1 : Nat) : Int) := by rw [IntKind.wrap_u64]; omega
    have w3 : decide ((0 : Int) ≤ ((k - 1 : Nat) : Int)) = true := by simp only [decide_eq_true_eq]; omega
    have w4 : IntKind.wrap .i64 ((k : Int) + 1) = ((k + 1 : Nat) : Int) := by
      have h : IntKind.wrap .i64 ((k : Int) + 1) = (k : Int) + 1 := W_in _ (by omega) (by omega)
      rw [h]; rfl
    have hlen : ∀ (m : Nat), (planF s m 0).length ≤ m := by
      have : ∀ (m lo : Nat), (planF s m lo).length ≤ m := by
        intro m
        induction m with
        | zero => intro lo; simp [planF]
        | succ m ihm =>
          intro lo
          have := ihm (lo + 1)
          simp only [planF, List.length_append]
          split <;> simp <;> omega
      exact fun m => this m 0
    have w5 : decide (((planF s (k - 1) 0).length + ([(k : Int)] : List Int).length) * 8 ≤ 140737488355328) = true := by
      have := hlen (k - 1)
      simp only [decide_eq_true_eq, List.length_cons, List.length_nil]; omega
    have hb := bit_eq s (k - 1) (by omega)
    have hsn := planF_snoc s (k - 1) 0
    have e1 : k - 1 + 1 = k := by omega
    have e2 : 0 + (k - 1) = k - 1 := by omega
    have e3 : 0 + (k - 1) + 1 = k := by omega
    rw [e1, e2, e1] at hsn
    have next := ih (k + 1) f (by omega) (by omega) (by omega)
    rw [Nat.add_sub_cancel, hsn] at next
    rw [← Nat.add_assoc]
    show B26_0_11 (K26_0 (f + d)) _ = _
    simp only [B26_0_11, hlt, w1, w2, w3, w4, w5, chk, Option.bind_some, hb]
    cases hbit : s.testBit (k - 1) with
    | true => rw [hbit, if_pos rfl] at next; exact next
    | false => rw [hbit] at next; simpa using next
end
end Go.Proofs.Ythlnocpbdhcnlaa.Ev
