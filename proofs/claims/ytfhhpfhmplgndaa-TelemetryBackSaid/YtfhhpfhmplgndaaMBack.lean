/- Chapter 41: samples come back from their bytes, and bytes from their samples. -/
import Derived.Test.YtfhhpfhmplgndaaMPacks
set_option linter.unusedVariables false
set_option linter.unusedSimpArgs false
namespace Go.Proofs.Ytfhhpfhmplgndaa.Ev
open Go

/-- A short number out of bytes: its groups together, and how many bytes. -/
def dcS : Nat → Bool → List Int → Option (Int × Nat)
  | 0, _, _ => none
  | _ + 1, _, [] => none
  | j + 1, z, b :: r =>
    if (j = 0 ∧ b > 1) ∨ (z = true ∧ b = 0) then none
    else if b < 128 then some (b, 1)
    else match dcS j true r with
      | some p => some (b % 128 + 128 * p.1, p.2 + 1)
      | none => none
theorem dcS_vb : ∀ (k : Nat) (z : Bool) (r : List Int) (x : Int) (c : Nat), Bytes r → dcS (k + 1) z r = some (x, c) → 1 ≤ c ∧ c ≤ r.length ∧ (z = true → 1 ≤ x) ∧ 0 ≤ x ∧ x < 128 ^ k * 2 ∧ r.take c = vb k x := by
  intro k
  induction k with
  | zero =>
    intro z r x c hr h
    cases r with
    | nil => simp [dcS] at h
    | cons b r =>
      simp only [dcS] at h
      have hb := hr b (List.mem_cons_self ..)
      split at h
      · cases h
      · rename_i hn
        split at h
        · simp only [Option.some.injEq, Prod.mk.injEq] at h
          obtain ⟨rfl, rfl⟩ := h
          have hb1 : ¬ b > 1 := fun h => hn (.inl ⟨trivial, h⟩)
          refine ⟨by omega, by simp, fun hz => ?_, hb.1, by simp; omega, rfl⟩
          have : ¬ b = 0 := fun h0 => hn (.inr ⟨hz, h0⟩)
          omega
        · simp at h
  | succ k ih =>
    intro z r x c hr h
    cases r with
    | nil => simp [dcS] at h
    | cons b r =>
      rw [dcS] at h
      have hb := hr b (List.mem_cons_self ..)
      split at h
      · cases h
      · rename_i hn
        split at h
        · rename_i hlt
          simp only [Option.some.injEq, Prod.mk.injEq] at h
          obtain ⟨rfl, rfl⟩ := h
          have hp : (0 : Int) < 128 ^ k := Int.pow_pos (by decide)
          refine ⟨by omega, by simp, fun hz => ?_, hb.1, ?_, ?_⟩
          · have : ¬ b = 0 := fun h0 => hn (.inr ⟨hz, h0⟩)
            omega
          · rw [Int.pow_succ]; generalize (128 : Int) ^ k = y at hp ⊢; omega
          · simp only [vb]; rw [if_neg (by omega)]; rfl
        · rename_i hge
          split at h
          · rename_i p hp
            simp only [Option.some.injEq, Prod.mk.injEq] at h
            obtain ⟨rfl, rfl⟩ := h
            obtain ⟨q1, q2, q3, q4, q5, q6⟩ := ih true r p.1 p.2 (fun y hy => hr y (List.mem_cons_of_mem _ hy)) hp
            have q3' := q3 rfl
            refine ⟨by omega, by simp; omega, fun _ => by omega, by omega, ?_, ?_⟩
            · rw [Int.pow_succ]; generalize (128 : Int) ^ k = y at q5 ⊢; omega
            · simp only [vb, List.take_succ_cons]
              rw [if_pos (by omega), q6, show (b % 128 + 128 * p.1) % 128 + 128 = b by omega, show (b % 128 + 128 * p.1) / 128 = p.1 by omega]
          · cases h
theorem dcS_go : ∀ (k : Nat) (z : Bool) (x : Int) (r : List Int), 0 ≤ x → x < 128 ^ k * 2 → (z = true → 1 ≤ x) → dcS (k + 1) z (vb k x ++ r) = some (x, (vb k x).length) := by
  intro k
  induction k with
  | zero =>
    intro z x r h0 h1 hz
    simp only [vb, List.singleton_append, dcS]
    simp at h1
    rw [if_neg (by
      rintro (⟨_, h⟩ | ⟨h, h2⟩)
      · omega
      · have := hz h; omega), if_pos (by omega)]
    rfl
  | succ k ih =>
    intro z x r h0 h1 hz
    rw [Int.pow_succ] at h1
    have hp : (0 : Int) < 128 ^ k := Int.pow_pos (by decide)
    simp only [vb]
    by_cases c : 128 ≤ x
    · rw [if_pos c]
      simp only [List.cons_append, List.length_cons]
      rw [dcS, if_neg (by
        rintro (⟨h, _⟩ | ⟨_, h⟩)
        · omega
        · omega), if_neg (by omega), ih true (x / 128) r (by omega) (by generalize (128 : Int) ^ k = y at h1 hp ⊢; omega) (fun _ => by omega)]
      simp only []
      congr 2
      omega
    · rw [if_neg c]
      simp only [List.singleton_append, List.length_singleton]
      rw [dcS, if_neg (by
        rintro (⟨h, _⟩ | ⟨h, h2⟩)
        · omega
        · have := hz h; omega), if_pos (by omega)]
/-- The sign back in front. -/
def uz (u : Int) : Int := if u % 2 = 0 then u / 2 else -(u / 2) - 1
theorem uz_zz (n : Int) : uz (zz n) = n := by unfold uz zz; split <;> split <;> omega
theorem zz_uz {u : Int} (h : 0 ≤ u) : zz (uz u) = u := by unfold uz zz; split <;> split <;> omega
theorem uz_i64 {u : Int} (h : U64 u) : I64 (uz u) := by unfold U64 at h; unfold uz I64; split <;> omega
theorem uz_prog {u : Int} (h : U64 u) : bits .xor .i64 (IntKind.wrap .i64 (Int.fdiv u (2 ^ 1))) (IntKind.wrap .i64 (0 - IntKind.wrap .i64 (bits .and .u64 u 1))) = uz u := by
  have hm := u64_mask 1 (by decide) h
  rw [show (2 : Int) ^ 1 - 1 = 1 from rfl, show (2 : Int) ^ 1 = 2 from rfl] at hm
  unfold U64 at h
  rw [hm, fdiv_pow, show (2 : Int) ^ 1 = 2 from rfl, wi64 (show -9223372036854775808 ≤ u / 2 ∧ u / 2 ≤ 9223372036854775807 by omega), wi64 (show -9223372036854775808 ≤ u % 2 ∧ u % 2 ≤ 9223372036854775807 by omega), wi64 (show -9223372036854775808 ≤ 0 - u % 2 ∧ 0 - u % 2 ≤ 9223372036854775807 by omega)]
  unfold uz
  by_cases c : u % 2 = 0
  · rw [if_pos c, c, show (0 : Int) - 0 = 0 from rfl, i64_xor0 (by unfold I64; omega)]
  · rw [if_neg c, show u % 2 = 1 by omega, show (0 : Int) - 1 = -1 from rfl, i64_xor1 (by omega) (by omega)]
    omega
/-! ### The reader -/
theorem rsK (n : Nat) (v) : K51_0 (n + 1) v = B51_0_5 (K51_0 n) v := rfl
/-- What one step does. -/
theorem rs_step {all : List Int} (hb : Bytes all) (hl : all.length ≤ 100000000) (n k p : Nat) (hk : k < 10) (hp : p ≤ all.length) (u fr err pl : Int) (hu0 : 0 ≤ u) (hu : u < 2 ^ (7 * k)) :
    K51_0 (n + 1) ((u, (fr, (k : Int))), (all, ((p : Int), (err, pl)))) =
      if p = all.length then some (0, (all, ((p : Int), (20, (all.length : Int)))))
      else if (k = 9 ∧ all.getD p 0 > 1) ∨ (0 < k ∧ all.getD p 0 = 0) then some (0, (all, ((p : Int) + 1, (24, fr))))
      else if all.getD p 0 < 128 then some (uz (u + 2 ^ (7 * k) * (all.getD p 0 % 128)), (all, ((p : Int) + 1, (err, pl))))
      else K51_0 n ((u + 2 ^ (7 * k) * (all.getD p 0 % 128), (fr, ((k + 1 : Nat) : Int))), (all, ((p : Int) + 1, (err, pl)))) := by
  rw [rsK]
  unfold B51_0_5
  rw [decide_eq_true (show ((k : Int)) < 10 by omega), cond_true]
  by_cases c0 : p = all.length
  · rw [if_pos c0]
    have : ((p : Int) == (all.length : Int)) = true := by rw [beq_iff_eq]; omega
    simp only [this, cond_true]
  · rw [if_neg c0]
    have : ((p : Int) == (all.length : Int)) = false := by rw [beq_eq_false_iff_ne]; omega
    simp only [this, cond_false]
    have hpl : p < all.length := by omega
    have hr : rdx all (p : Int) = some (all.getD p 0) := by
      unfold rdx
      rw [decide_eq_true (by omega)]
      simp only [Int.toNat_natCast]
      exact getD_at hpl
    have hB := hb _ (getD_mem hpl)
    rw [hr, Option.bind_some]
    generalize all.getD p 0 = x at hB ⊢
    have hp7 : (0 : Int) < 2 ^ (7 * k) := Int.pow_pos (by decide)
    have hle : k < 9 → (2 : Int) ^ (7 * k) * 128 ≤ 9223372036854775808 := by
      intro h9
      have e : (2 : Int) ^ (7 * k) * 128 = 2 ^ (7 * (k + 1)) := by rw [Nat.mul_add, Int.pow_add]; rfl
      rw [e]
      have h8 : (2 : Nat) ^ (7 * (k + 1)) ≤ 2 ^ 63 := Nat.pow_le_pow_right (by decide) (by omega)
      have h9 : ((2 ^ (7 * (k + 1)) : Nat) : Int) ≤ ((2 ^ 63 : Nat) : Int) := Int.ofNat_le.2 h8
      simpa using h9
    have h9e : k = 9 → (2 : Int) ^ (7 * k) = 9223372036854775808 := by rintro rfl; rfl
    -- the number so far
    have hnum : ¬ (k = 9 ∧ x > 1) → 0 ≤ 2 ^ (7 * k) * (x % 128) ∧ u + 2 ^ (7 * k) * (x % 128) ≤ 18446744073709551615 ∧
        bits .or .u64 u (IntKind.wrap .u64 (IntKind.wrap .u64 (bits .andNot .u8 x 128) * 2 ^ min (IntKind.wrap .i64 (7 * (k : Int))).toNat 64)) = u + 2 ^ (7 * k) * (x % 128) := by
      intro h91
      rw [u8_not128 hB.1 hB.2, wrap_u64 (show U64 (x % 128) by unfold U64; omega), wi64 (show -9223372036854775808 ≤ 7 * (k : Int) ∧ 7 * (k : Int) ≤ 9223372036854775807 by omega)]
      rw [show (7 * (k : Int)).toNat = 7 * k by omega, show min (7 * k) 64 = 7 * k by omega]
      have hm : 0 ≤ 2 ^ (7 * k) * (x % 128) := Int.mul_nonneg (Int.le_of_lt hp7) (by omega)
      have hub : u + 2 ^ (7 * k) * (x % 128) ≤ 18446744073709551615 := by
        by_cases h9 : k = 9
        · have e9 := h9e h9
          have hx1 : x % 128 ≤ 1 := by
            have : ¬ x > 1 := fun h => h91 ⟨h9, h⟩
            omega
          rw [e9] at hu ⊢
          omega
        · have := hle (by omega)
          have h3 : 2 ^ (7 * k) * (x % 128) ≤ 2 ^ (7 * k) * 127 := Int.mul_le_mul_of_nonneg_left (by omega) (Int.le_of_lt hp7)
          omega
      refine ⟨hm, hub, ?_⟩
      rw [Int.mul_comm (x % 128), wrap_u64 (show U64 (2 ^ (7 * k) * (x % 128)) by unfold U64; omega), or_comm64,
        u64_join (7 * k) (by unfold U64; omega) (Int.mul_emod_right _ _) hu0 hu (by unfold U64; omega)]
      omega
    have w1 : IntKind.wrap .i64 ((p : Int) + 1) = (p : Int) + 1 := wi64 (by omega)
    have w2 : IntKind.wrap .i64 ((k : Int) + 1) = ((k + 1 : Nat) : Int) := wi64 (by omega)
    have hc7 : ∀ {α : Type} (f : Unit → Option α), (chk (decide (0 ≤ IntKind.wrap .i64 (7 * (k : Int))))).bind f = f () := fun f => chkT (by rw [wi64 (by omega)]; omega) f
    have leaf : ¬ (k = 9 ∧ x > 1) → ∀ (Y : Option (Int × List Int × Int × Int × Int)), Y = (bif decide (x < 128) then
        some (bits .xor .i64 (IntKind.wrap .i64 (Int.fdiv (bits .or .u64 u (IntKind.wrap .u64 (IntKind.wrap .u64 (bits .andNot .u8 x 128) * 2 ^ min (IntKind.wrap .i64 (7 * (k : Int))).toNat 64))) (2 ^ 1))) (IntKind.wrap .i64 (0 - IntKind.wrap .i64 (bits .and .u64 (bits .or .u64 u (IntKind.wrap .u64 (IntKind.wrap .u64 (bits .andNot .u8 x 128) * 2 ^ min (IntKind.wrap .i64 (7 * (k : Int))).toNat 64))) 1))), (all, ((p : Int) + 1, (err, pl))))
      else K51_0 n ((bits .or .u64 u (IntKind.wrap .u64 (IntKind.wrap .u64 (bits .andNot .u8 x 128) * 2 ^ min (IntKind.wrap .i64 (7 * (k : Int))).toNat 64)), (fr, ((k + 1 : Nat) : Int))), (all, ((p : Int) + 1, (err, pl))))) →
        Y = if x < 128 then some (uz (u + 2 ^ (7 * k) * (x % 128)), (all, ((p : Int) + 1, (err, pl)))) else K51_0 n ((u + 2 ^ (7 * k) * (x % 128), (fr, ((k + 1 : Nat) : Int))), (all, ((p : Int) + 1, (err, pl)))) := by
      intro h91 Y hY
      obtain ⟨g1, g2, g3⟩ := hnum h91
      rw [g3, uz_prog (by unfold U64; omega)] at hY
      rw [hY]
      by_cases c : x < 128
      · rw [decide_eq_true c, cond_true, if_pos c]
      · rw [decide_eq_false c, cond_false, if_neg c]
    simp only [w1, w2]
    by_cases c9 : k = 9
    · have b9 : ((k : Int) == 9) = true := by rw [beq_iff_eq]; omega
      rw [b9, cond_true]
      by_cases cx : x > 1
      · rw [decide_eq_true cx, cond_true, if_pos (.inl ⟨c9, cx⟩)]
      · rw [decide_eq_false cx, cond_false, decide_eq_true (show (k : Int) > 0 by omega), cond_true]
        by_cases cz : x = 0
        · have bz : (x == 0) = true := by rw [beq_iff_eq]; exact cz
          rw [bz, cond_true, if_pos (.inr ⟨by omega, cz⟩)]
        · have bz : (x == 0) = false := by rw [beq_eq_false_iff_ne]; exact cz
          rw [bz, cond_false, if_neg (by rintro (⟨_, h⟩ | ⟨_, h⟩) <;> omega), hc7]
          exact leaf (fun h => cx h.2) _ rfl
    · have b9 : ((k : Int) == 9) = false := by rw [beq_eq_false_iff_ne]; omega
      rw [b9, cond_false]
      by_cases ck : 0 < k
      · rw [decide_eq_true (show (k : Int) > 0 by omega), cond_true]
        by_cases cz : x = 0
        · have bz : (x == 0) = true := by rw [beq_iff_eq]; exact cz
          rw [bz, cond_true, if_pos (.inr ⟨ck, cz⟩)]
        · have bz : (x == 0) = false := by rw [beq_eq_false_iff_ne]; exact cz
          rw [bz, cond_false, if_neg (by rintro (⟨h, _⟩ | ⟨_, h⟩) <;> omega), hc7]
          exact leaf (fun h => c9 h.1) _ rfl
      · rw [decide_eq_false (show ¬ (k : Int) > 0 by omega), cond_false, if_neg (by rintro (⟨h, _⟩ | ⟨h, _⟩) <;> omega), hc7]
        exact leaf (fun h => c9 h.1) _ rfl
/-- The loop: a number that is there, or an error. -/
theorem rs_go {all : List Int} (hb : Bytes all) (hl : all.length ≤ 100000000) (fr err pl : Int) : ∀ (j k p n : Nat) (u : Int), j + k = 10 → j < n → p ≤ all.length → 0 ≤ u → u < 2 ^ (7 * k) →
    match dcS j (decide (0 < k)) (all.drop p) with
    | some r => K51_0 n ((u, (fr, (k : Int))), (all, ((p : Int), (err, pl)))) = some (uz (u + 2 ^ (7 * k) * r.1), (all, (((p + r.2 : Nat) : Int), (err, pl))))
    | none => ∃ q e a, K51_0 n ((u, (fr, (k : Int))), (all, ((p : Int), (err, pl)))) = some (0, (all, (q, (e, a)))) ∧ e ≠ 0 ∧ 0 ≤ q ∧ q ≤ all.length ∧ (a = fr ∨ a = all.length) := by
  intro j
  induction j with
  | zero =>
    intro k p n u hk hn hp h0 h1
    obtain ⟨n, rfl⟩ : ∃ m, n = m + 1 := ⟨n - 1, by omega⟩
    rw [show dcS 0 (decide (0 < k)) (all.drop p) = none from rfl]
    refine ⟨(p : Int), 24, fr, ?_, by decide, by omega, by omega, .inl rfl⟩
    rw [rsK]
    unfold B51_0_5
    rw [decide_eq_false (by simp only []; omega), cond_false]
  | succ j ih =>
    intro k p n u hk hn hp h0 h1
    obtain ⟨n, rfl⟩ : ∃ m, n = m + 1 := ⟨n - 1, by omega⟩
    rw [rs_step hb hl n k p (by omega) hp u fr err pl h0 h1]
    by_cases c0 : p = all.length
    · rw [List.drop_eq_nil_of_le (by omega)]
      rw [show dcS (j + 1) (decide (0 < k)) [] = none from rfl, if_pos c0]
      exact ⟨_, _, _, rfl, by decide, by omega, by omega, .inr rfl⟩
    · have hpl : p < all.length := by omega
      have hxe : all[p] = all.getD p 0 := by simp [List.getD, List.getElem?_eq_getElem hpl]
      rw [List.drop_eq_getElem_cons hpl, dcS, hxe, if_neg c0]
      have hB := hb _ (getD_mem hpl)
      generalize all.getD p 0 = x at hB ⊢
      by_cases c1 : (k = 9 ∧ x > 1) ∨ (0 < k ∧ x = 0)
      · rw [if_pos c1, if_pos (by
          rcases c1 with ⟨h, h2⟩ | ⟨h, h2⟩
          · exact .inl ⟨by omega, h2⟩
          · exact .inr ⟨by simpa using h, h2⟩)]
        exact ⟨_, _, _, rfl, by decide, by omega, by omega, .inl rfl⟩
      · rw [if_neg c1, if_neg (by
          rintro (⟨h, h2⟩ | ⟨h, h2⟩)
          · exact c1 (.inl ⟨by omega, h2⟩)
          · exact c1 (.inr ⟨by simpa using h, h2⟩))]
        by_cases c2 : x < 128
        · rw [if_pos c2, if_pos c2]
          simp only []
          rw [show x % 128 = x by omega]
          rfl
        · rw [if_neg c2, if_neg c2]
          have hp7 : (0 : Int) < 2 ^ (7 * k) := Int.pow_pos (by decide)
          have e7 : (2 : Int) ^ (7 * (k + 1)) = 2 ^ (7 * k) * 128 := by rw [Nat.mul_add, Int.pow_add]; rfl
          have hm : 0 ≤ 2 ^ (7 * k) * (x % 128) := Int.mul_nonneg (Int.le_of_lt hp7) (by omega)
          have h3 : 2 ^ (7 * k) * (x % 128) ≤ 2 ^ (7 * k) * 127 := Int.mul_le_mul_of_nonneg_left (by omega) (Int.le_of_lt hp7)
          have h := ih (k + 1) (p + 1) n (u + 2 ^ (7 * k) * (x % 128)) (by omega) (by omega) (by omega) (by omega) (by rw [e7]; omega)
          rw [show ((p + 1 : Nat) : Int) = (p : Int) + 1 by omega, show decide (0 < k + 1) = true by simp] at h
          cases hd : dcS j true (all.drop (p + 1)) with
          | none => rw [hd] at h; exact h
          | some r =>
            rw [hd] at h
            simp only [] at h ⊢
            rw [h, e7, show p + 1 + r.2 = p + (r.2 + 1) by omega]
            congr 2
            rw [Int.mul_add, Int.mul_assoc]
            rw [Int.add_assoc]
theorem rd_short {all : List Int} (hb : Bytes all) (hl : all.length ≤ 100000000) (p : Nat) (hp : p ≤ all.length) (pl : Int) :
    match dcS 10 false (all.drop p) with
    | some r => F51_0 (all, ((p : Int), (0, pl))) = some (uz r.1, (all, (((p + r.2 : Nat) : Int), (0, pl))))
    | none => ∃ q e a, F51_0 (all, ((p : Int), (0, pl))) = some (0, (all, (q, (e, a)))) ∧ e ≠ 0 ∧ 0 ≤ q ∧ q ≤ all.length ∧ 0 ≤ a ∧ a ≤ all.length := by
  have h := rs_go hb hl (p : Int) 0 pl 10 0 p 1000 0 (by omega) (by omega) hp (by omega) (by simp)
  rw [show decide (0 < 0) = false from rfl] at h
  have e : F51_0 (all, ((p : Int), (0, pl))) = K51_0 1000 ((0, ((p : Int), ((0 : Nat) : Int))), (all, ((p : Int), (0, pl)))) := rfl
  cases hd : dcS 10 false (all.drop p) with
  | none =>
    rw [hd] at h
    obtain ⟨q, x, a, h1, h2, h3, h4, h5⟩ := h
    exact ⟨q, x, a, e.trans h1, h2, h3, h4, by omega, by omega⟩
  | some r =>
    rw [hd] at h
    simp only [] at h ⊢
    rw [e, h, Nat.mul_zero]
    simp
end Go.Proofs.Ytfhhpfhmplgndaa.Ev
