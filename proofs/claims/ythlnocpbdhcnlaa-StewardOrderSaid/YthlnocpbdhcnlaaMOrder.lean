/- The order of those who finish. -/
import Derived.Test.YthlnocpbdhcnlaaMSort3A
import Derived.Test.YthlnocpbdhcnlaaMSteward2
set_option linter.unusedVariables false
set_option linter.unusedSimpArgs false
namespace Go.Proofs.Ythlnocpbdhcnlaa.Ev
open Go

abbrev CarsT : Type := List (List EvT)
def Fin6 (l : List EvT) : Prop := ∃ e ∈ l, e.1 = 6
theorem add_one (l : List PeT) (hl : l.length ≤ 300) : F13_0 l = some (l.foldl addW 0) := by
  have h1 := sum_p l hl l.length 0 1000 0 (by omega) (by omega)
  rw [List.drop_zero] at h1
  exact h1
theorem fiK (n : Nat) (v) : K46_0 (n + 1) v = B46_0_2 (K46_0 n) v := rfl
theorem fi_loop (l : List EvT) (hl : l.length ≤ 300) : ∀ (d i f : Nat), i + d = l.length → d < f → ∃ r : Int, K46_0 f (l, ((l.length : Int), (i : Int))) = some r ∧ (r < 0 ∨ ∃ k : Nat, ∃ h : k < l.length, r = (k : Int) ∧ l[k].1 = 6) := by
  intro d
  induction d with
  | zero =>
    intro i f hi hf
    obtain ⟨f, rfl⟩ : ∃ q, f = q + 1 := ⟨f - 1, by omega⟩
    refine ⟨-1, ?_, .inl (by decide)⟩
    refine (fiK _ _).trans ?_
    unfold B46_0_2
    rw [decide_eq_false (by simp only []; omega), cond_false]
  | succ d ih =>
    intro i f hi hf
    obtain ⟨f, rfl⟩ : ∃ q, f = q + 1 := ⟨f - 1, by omega⟩
    have hil : i < l.length := by omega
    by_cases h6 : l[i].1 = 6
    · refine ⟨(i : Int), ?_, .inr ⟨i, hil, rfl, h6⟩⟩
      refine (fiK _ _).trans ?_
      unfold B46_0_2 F47_0
      rw [decide_eq_true (by simp only []; omega), cond_true]
      simp only [srd hil, bnd', h6, beq_self_eq_true, cond_true]
    · obtain ⟨r, e, h⟩ := ih (i + 1) f (by omega) (by omega)
      refine ⟨r, ?_, h⟩
      refine (fiK _ _).trans ?_
      unfold B46_0_2 F47_0
      rw [decide_eq_true (by simp only []; omega), cond_true]
      simp only [srd hil, bnd', show (l[i].1 == 6) = false from beq_eq_false_iff_ne.2 h6, cond_false, s64 (show -9223372036854775808 ≤ (i : Int) + 1 ∧ (i : Int) + 1 ≤ 9223372036854775807 by omega)]
      rw [show ((i + 1 : Nat) : Int) = (i : Int) + 1 by omega] at e
      exact e
theorem fin_p (r : RuT) (l : List EvT) (hl : l.length ≤ 300) : ∃ t ok, F41_0 (r, l) = some (t, ok) ∧ (ok = true → Fin6 l) := by
  obtain ⟨k, e, h⟩ := fi_loop l hl l.length 0 1000 (by omega) (by omega)
  have e' : F46_0 l = some k := e
  have lj := judgeS_len r l
  unfold F41_0
  rw [judge_p r l hl, bnd']
  simp only []
  rw [e', bnd']
  cases (judgeS r l).1.1 with
  | true => exact ⟨0, false, rfl, fun h => by cases h⟩
  | false =>
    rw [cond_false]
    cases ((judgeS r l).1.2 != 0) with
    | true => exact ⟨0, false, rfl, fun h => by cases h⟩
    | false =>
      rw [cond_false]
      rcases h with h | ⟨q, hq, rfl, h6⟩
      · rw [decide_eq_true h]
        exact ⟨0, false, rfl, fun h => by cases h⟩
      · rw [decide_eq_false (by omega), cond_false, srd hq, bnd', add_one _ (by omega), bnd']
        exact ⟨_, true, rfl, fun _ => ⟨l[q], List.getElem_mem hq, h6⟩⟩
/-! ### Who finishes -/
structure Pl (cars : CarsT) (n : Nat) (z : List Al) : Prop where
  rng : ∀ x ∈ z, 0 ≤ x.1 ∧ x.1 < (n : Int) ∧ Fin6 (cars.getD x.1.toNat [])
  up : z.Pairwise (fun a b => a.1 < b.1)
  len : z.length ≤ n
theorem clK1 (n : Nat) (v) : (K29_0 (n + 1)).1 v = B29_0_3 (K29_0 n) v := rfl
theorem clK2 (n : Nat) (v) : (K29_0 (n + 1)).2 v = B29_0_13 (K29_0 n) v := rfl
theorem cl_two (z : List Al) (hz : z.length ≤ 30) : ∀ (d i f : Nat) (ts cs : List Int), i + d = z.length → d < f → ts.length = i → cs.length = i →
    (K29_0 f).2 (((z.length : Int), (i : Int)), (z, (ts, cs))) = some (ts ++ (z.drop i).map (·.2), cs ++ (z.drop i).map (·.1)) := by
  intro d
  induction d with
  | zero =>
    intro i f ts cs hi hf h1 h2
    obtain ⟨f, rfl⟩ : ∃ q, f = q + 1 := ⟨f - 1, by omega⟩
    refine (clK2 _ _).trans ?_
    unfold B29_0_13
    rw [decide_eq_false (by simp only []; omega), cond_false, List.drop_eq_nil_of_le (by omega)]
    simp
  | succ d ih =>
    intro i f ts cs hi hf h1 h2
    obtain ⟨f, rfl⟩ : ∃ q, f = q + 1 := ⟨f - 1, by omega⟩
    have hil : i < z.length := by omega
    have e := ih (i + 1) f (ts ++ [z[i].2]) (cs ++ [z[i].1]) (by omega) (by omega) (by simp [h1]) (by simp [h2])
    refine (clK2 _ _).trans ?_
    unfold B29_0_13
    rw [decide_eq_true (by simp only []; omega), cond_true]
    simp only [sidx hil, bnd', List.getElem?_eq_getElem hil]
    rw [decide_eq_true (show (cs.length + ([z[i].1] : List Int).length) * 8 ≤ 140737488355328 by simp; omega), decide_eq_true (show (ts.length + ([z[i].2] : List Int).length) * 8 ≤ 140737488355328 by simp; omega)]
    simp only [chk, bnd']
    rw [s64 (by omega)]
    rw [show ((i + 1 : Nat) : Int) = (i : Int) + 1 by omega] at e
    refine e.trans ?_
    rw [List.drop_eq_getElem_cons hil]
    simp only [List.map_cons, List.append_assoc, List.cons_append, List.nil_append]
theorem cl_one (r : RuT) (cars : CarsT) (hc : cars.length ≤ 30) (hl : ∀ l ∈ cars, l.length ≤ 300) : ∀ (d i f : Nat) (z : List Al), i + d = cars.length → d + 100 < f → Pl cars i z →
    ∃ f' z', 60 < f' ∧ Pl cars cars.length z' ∧ (K29_0 f).1 ((cars, ((cars.length : Int), (i : Int))), (z, r)) = (F42_0 z').bind fun r1011 => (K29_0 f').2 ((((r1011).length : Int), (0 : Int)), (r1011, (([] : List Int), ([] : List Int)))) := by
  intro d
  induction d with
  | zero =>
    intro i f z hi hf hz
    obtain ⟨f, rfl⟩ : ∃ q, f = q + 1 := ⟨f - 1, by omega⟩
    refine ⟨f, z, by omega, by rw [← show i = cars.length by omega]; exact hz, ?_⟩
    refine (clK1 _ _).trans ?_
    unfold B29_0_3
    rw [decide_eq_false (by simp only []; omega), cond_false]
  | succ d ih =>
    intro i f z hi hf hz
    obtain ⟨f, rfl⟩ : ∃ q, f = q + 1 := ⟨f - 1, by omega⟩
    have hil : i < cars.length := by omega
    obtain ⟨t, ok, e, h6⟩ := fin_p r cars[i] (hl _ (List.getElem_mem hil))
    have hg : cars.getD i [] = cars[i] := by simp [List.getD, List.getElem?_eq_getElem hil]
    cases ok with
    | false =>
      obtain ⟨f', z', h1, h2, h3⟩ := ih (i + 1) f z (by omega) (by omega) ⟨fun x hx => by have := hz.rng x hx; exact ⟨this.1, by omega, this.2.2⟩, hz.up, by have := hz.len; omega⟩
      refine ⟨f', z', h1, h2, ?_⟩
      refine (clK1 _ _).trans ?_
      unfold B29_0_3
      rw [decide_eq_true (by simp only []; omega), cond_true]
      simp only [srd hil, bnd']
      rw [e, bnd']
      simp only [cond_false]
      rw [s64 (by omega)]
      rw [show ((i + 1 : Nat) : Int) = (i : Int) + 1 by omega] at h3
      exact h3
    | true =>
      have hz2 : Pl cars (i + 1) (z ++ [((i : Int), t)]) := by
        refine ⟨?_, ?_, by simp; have := hz.len; omega⟩
        · intro x hx
          rcases List.mem_append.1 hx with g | g
          · have := hz.rng x g; exact ⟨this.1, by omega, this.2.2⟩
          · simp at g; subst g
            exact ⟨by simp only []; omega, by simp only []; omega, by simp only [Int.toNat_natCast]; rw [hg]; exact h6 rfl⟩
        · refine List.pairwise_append.2 ⟨hz.up, List.pairwise_singleton _ _, ?_⟩
          intro a ha b hb
          simp at hb; subst hb
          exact (hz.rng a ha).2.1
      obtain ⟨f', z', h1, h2, h3⟩ := ih (i + 1) f _ (by omega) (by omega) hz2
      refine ⟨f', z', h1, h2, ?_⟩
      refine (clK1 _ _).trans ?_
      unfold B29_0_3
      rw [decide_eq_true (by simp only []; omega), cond_true]
      simp only [srd hil, bnd']
      rw [e, bnd']
      simp only [cond_true]
      rw [decide_eq_true (show (z.length + ([((i : Int), t)] : List Al).length) * 16 ≤ 140737488355328 by have := hz.len; simp; omega)]
      simp only [chk, bnd']
      rw [s64 (by omega)]
      rw [show ((i + 1 : Nat) : Int) = (i : Int) + 1 by omega] at h3
      exact h3
theorem classify_p (r : RuT) (cars : CarsT) (hc : cars.length ≤ 30) (hl : ∀ l ∈ cars, l.length ≤ 300) : ∃ z0 z, Pl cars cars.length z0 ∧ z.Perm z0 ∧ Srt () z ∧ F29_0 (r, cars) = some (z.map (·.2), z.map (·.1)) := by
  have E : ∀ fu, 900 < fu → ∃ z0 z, Pl cars cars.length z0 ∧ z.Perm z0 ∧ Srt () z ∧ E29_0 (K29_0 fu) (r, cars) = some (z.map (·.2), z.map (·.1)) := by
    intro fu hfu
    obtain ⟨f', z', h1, h2, h3⟩ := cl_one r cars hc hl cars.length 0 fu [] (by omega) (by omega) ⟨fun x hx => (by cases hx), List.Pairwise.nil, (by simp)⟩
    obtain ⟨z, p1, p2, p3⟩ := stableS () z' (by have := h2.len; omega) (fun x _ => trivial)
    have lz : z.length ≤ 30 := by rw [p1.length_eq]; have := h2.len; omega
    have two := cl_two z lz z.length 0 f' [] [] (by omega) (by omega) rfl rfl
    refine ⟨z', z, h2, p1, p2, ?_⟩
    unfold E29_0
    refine Eq.trans h3 ?_
    unfold F42_0
    simp only [TT, SS] at p3
    rw [p3, bnd', bnd']
    rw [List.drop_zero, List.nil_append, List.nil_append] at two
    exact two
  exact E 1000 (by decide)
/-! ### Few -/
theorem fwK1 (n : Nat) (v) : (K28_0 (n + 1)).1 v = B28_0_2 (K28_0 n) v := rfl
theorem fwK2 (n : Nat) (v) : (K28_0 (n + 1)).2 v = B28_0_7 (K28_0 n) v := rfl
theorem few_in (cars : CarsT) {i : Nat} (hi : i < cars.length) (hi30 : i < 30) (h3 : cars[i].length ≤ 300) : ∀ (d k f : Nat), k + d = cars[i].length → d < f →
    (∃ f', f ≤ f' + d + 1 ∧ (K28_0 f).2 (cars, ((i : Int), (k : Int))) = (K28_0 f').1 (cars, ((i + 1 : Nat) : Int))) ∨ (K28_0 f).2 (cars, ((i : Int), (k : Int))) = some false := by
  intro d
  induction d with
  | zero =>
    intro k f hk hf
    obtain ⟨f, rfl⟩ : ∃ q, f = q + 1 := ⟨f - 1, by omega⟩
    refine .inl ⟨f, by omega, ?_⟩
    refine (fwK2 _ _).trans ?_
    unfold B28_0_7
    simp only [srd hi, bnd']
    rw [decide_eq_false (by omega), cond_false, s64 (by omega)]
    rfl
  | succ d ih =>
    intro k f hk hf
    obtain ⟨f, rfl⟩ : ∃ q, f = q + 1 := ⟨f - 1, by omega⟩
    have hkl : k < cars[i].length := by omega
    have st : (K28_0 (f + 1)).2 (cars, ((i : Int), (k : Int))) = bif decide (cars[i][k].2.2.2 > 4611686018427387904) then some false else bif decide (cars[i][k].2.2.2 < -4611686018427387904) then some false else (K28_0 f).2 (cars, ((i : Int), ((k + 1 : Nat) : Int))) := by
      refine (fwK2 _ _).trans ?_
      unfold B28_0_7
      simp only [srd hi, bnd']
      rw [decide_eq_true (by omega), cond_true]
      simp only [srd hkl, bnd']
      rw [s64 (by omega)]
      rfl
    rw [st]
    cases decide (cars[i][k].2.2.2 > 4611686018427387904) with
    | true => exact .inr rfl
    | false =>
      rw [cond_false]
      cases decide (cars[i][k].2.2.2 < -4611686018427387904) with
      | true => exact .inr rfl
      | false =>
        rw [cond_false]
        rcases ih (k + 1) f (by omega) (by omega) with ⟨f', h1, h2⟩ | h
        · exact .inl ⟨f', by omega, h2⟩
        · exact .inr h
theorem few_out (cars : CarsT) : ∀ (d i f : Nat), i + d = 30 → 303 * (d + 1) < f → (∀ k (hk : k < cars.length), k < i → cars[k].length ≤ 300) →
    ∃ b, (K28_0 f).1 (cars, (i : Int)) = some b ∧ (b = true → cars.length ≤ 30 ∧ ∀ l ∈ cars, l.length ≤ 300) := by
  intro d
  induction d with
  | zero =>
    intro i f hi hf hl
    obtain ⟨f, rfl⟩ : ∃ q, f = q + 1 := ⟨f - 1, by omega⟩
    refine ⟨decide ((cars.length : Int) ≤ 30), ?_, fun h => ?_⟩
    · refine (fwK1 _ _).trans ?_
      unfold B28_0_2
      by_cases hc : i < cars.length
      · rw [decide_eq_true (by simp only []; omega), cond_true, decide_eq_false (by simp only []; omega), cond_false]
      · rw [decide_eq_false (by simp only []; omega), cond_false]
    · have h30 := of_decide_eq_true h
      refine ⟨by omega, fun l hl' => ?_⟩
      obtain ⟨k, hk, rfl⟩ := List.mem_iff_getElem.1 hl'
      exact hl k hk (by omega)
  | succ d ih =>
    intro i f hi hf hl
    obtain ⟨f, rfl⟩ : ∃ q, f = q + 1 := ⟨f - 1, by omega⟩
    by_cases hil : i < cars.length
    case neg =>
      refine ⟨decide ((cars.length : Int) ≤ 30), ?_, fun h => ?_⟩
      · refine (fwK1 _ _).trans ?_
        unfold B28_0_2
        rw [decide_eq_false (by simp only []; omega), cond_false]
      · refine ⟨by omega, fun l hl' => ?_⟩
        obtain ⟨k, hk, rfl⟩ := List.mem_iff_getElem.1 hl'
        exact hl k hk (by omega)
    by_cases h3 : cars[i].length ≤ 300
    · have st : (K28_0 (f + 1)).1 (cars, (i : Int)) = (K28_0 f).2 (cars, ((i : Int), ((0 : Nat) : Int))) := by
        refine (fwK1 _ _).trans ?_
        unfold B28_0_2
        rw [decide_eq_true (by simp only []; omega), cond_true, decide_eq_true (by simp only []; omega), cond_true]
        simp only [srd hil, bnd']
        rw [decide_eq_false (by omega), cond_false]
        rfl
      rw [st]
      rcases few_in cars hil (by omega) h3 cars[i].length 0 f (by omega) (by omega) with ⟨f', g1, g2⟩ | g
      · rw [g2]
        exact ih (i + 1) f' (by omega) (by omega) (fun k hk hki => by
          by_cases e : k = i
          · subst e; exact h3
          · exact hl k hk (by omega))
      · exact ⟨false, g, fun h => by cases h⟩
    · refine ⟨false, ?_, fun h => by cases h⟩
      refine (fwK1 _ _).trans ?_
      unfold B28_0_2
      rw [decide_eq_true (by simp only []; omega), cond_true, decide_eq_true (by simp only []; omega), cond_true]
      simp only [srd hil, bnd']
      rw [decide_eq_true (by omega), cond_true]
theorem few_p (cars : CarsT) : ∃ b, F28_0 cars = some b ∧ (b = true → cars.length ≤ 30 ∧ ∀ l ∈ cars, l.length ≤ 300) := by
  have hF : F28_0 cars = E28_0 (K28_0 (fuel28_0 cars)) cars := rfl
  have E1 : ∀ fu, 12000 < fu → ∃ b, E28_0 (K28_0 fu) cars = some b ∧ (b = true → cars.length ≤ 30 ∧ ∀ l ∈ cars, l.length ≤ 300) := fun fu hfu => few_out cars 30 0 fu (by omega) (by omega) (fun k hk h => by omega)
  rw [hF, show fuel28_0 cars = 20000 from rfl]
  exact E1 20000 (by omega)
/-! ### The law -/
theorem orK1 (n : Nat) (v) : (K9_0 (n + 1)).1 v = B9_0_7 (K9_0 n) v := rfl
theorem orK2 (n : Nat) (v) : (K9_0 (n + 1)).2.1 v = B9_0_13 (K9_0 n) v := rfl
theorem orK3 (n : Nat) (v) : (K9_0 (n + 1)).2.2 v = B9_0_17 (K9_0 n) v := rfl
structure Zok (cars : CarsT) (z : List Al) : Prop where
  rng : ∀ x ∈ z, 0 ≤ x.1 ∧ x.1 < (cars.length : Int) ∧ Fin6 (cars.getD x.1.toNat [])
  ne : z.Pairwise (fun a b => a.1 ≠ b.1)
  srt : z.Pairwise (fun a b => a.2 ≤ b.2)
  len : z.length ≤ 30
theorem or_done (cars : CarsT) (z : List Al) (hz : Zok cars z) (hl : ∀ l ∈ cars, l.length ≤ 300) {i c : Nat} (hi : i < z.length) (hc : c < cars.length) (hzc : z[i].1 = (c : Int)) : ∀ (d k f : Nat) (dn : Bool), k + d = cars[c].length → d < f → (dn = true ∨ ∃ e ∈ cars[c].drop k, e.1 = 6) →
    ∃ f', f ≤ f' + d + 1 ∧ (K9_0 f).2.1 ((cars, ((i : Int), (dn, (k : Int)))), (z.map (·.2), z.map (·.1))) = (K9_0 f').2.2 ((cars, ((i : Int), (true, (0 : Int)))), (z.map (·.2), z.map (·.1))) := by
  have h300 := hl _ (List.getElem_mem hc)
  have lm : (z.map (·.1)).length = z.length := List.length_map _
  have gm : (z.map (·.1))[i]? = some (c : Int) := by simp [List.getElem?_eq_getElem hi, hzc]
  intro d
  induction d with
  | zero =>
    intro k f dn hk hf hd
    obtain ⟨f, rfl⟩ : ∃ q, f = q + 1 := ⟨f - 1, by omega⟩
    have hd' : dn = true := by
      rcases hd with h | ⟨e, he, _⟩
      · exact h
      · rw [List.drop_eq_nil_of_le (by omega)] at he; cases he
    subst hd'
    refine ⟨f, by omega, ?_⟩
    refine (orK2 _ _).trans ?_
    unfold B9_0_13
    simp only [lm, sidx hi, bnd', gm, srd hc]
    rw [decide_eq_false (by omega), cond_false]
  | succ d ih =>
    intro k f dn hk hf hd
    obtain ⟨f, rfl⟩ : ∃ q, f = q + 1 := ⟨f - 1, by omega⟩
    have hkl : k < cars[c].length := by omega
    cases dn with
    | true =>
      obtain ⟨f', h1, h2⟩ := ih (k + 1) f true (by omega) (by omega) (.inl rfl)
      refine ⟨f', by omega, ?_⟩
      refine (orK2 _ _).trans ?_
      unfold B9_0_13
      simp only [lm, sidx hi, bnd', gm, srd hc]
      rw [decide_eq_true (by omega), cond_true, cond_true, s64 (by omega)]
      rw [show ((k + 1 : Nat) : Int) = (k : Int) + 1 by omega] at h2
      exact h2
    | false =>
      have hd' : (cars[c][k].1 == 6) = true ∨ ∃ e ∈ cars[c].drop (k + 1), e.1 = 6 := by
        rcases hd with h | ⟨e, he, h6⟩
        · cases h
        · rw [List.drop_eq_getElem_cons hkl] at he
          rcases List.mem_cons.1 he with rfl | he
          · exact .inl (by rw [h6]; rfl)
          · exact .inr ⟨e, he, h6⟩
      obtain ⟨f', h1, h2⟩ := ih (k + 1) f (cars[c][k].1 == 6) (by omega) (by omega) hd'
      refine ⟨f', by omega, ?_⟩
      refine (orK2 _ _).trans ?_
      unfold B9_0_13
      simp only [lm, sidx hi, bnd', gm, srd hc]
      rw [decide_eq_true (by omega), cond_true, cond_false]
      simp only [srd hkl, bnd']
      rw [s64 (by omega)]
      rw [show ((k + 1 : Nat) : Int) = (k : Int) + 1 by omega] at h2
      exact h2
theorem or_dup (cars : CarsT) (z : List Al) (hz : Zok cars z) {i : Nat} (hi : i < z.length) : ∀ (d k f : Nat), k + d = i → d < f →
    ∃ f', f ≤ f' + d + 1 ∧ (K9_0 f).2.2 ((cars, ((i : Int), (true, (k : Int)))), (z.map (·.2), z.map (·.1))) = (K9_0 f').1 ((cars, ((i + 1 : Nat) : Int)), (z.map (·.2), z.map (·.1))) := by
  have h30 := hz.len
  have lm : (z.map (·.1)).length = z.length := List.length_map _
  have gm : ∀ j (hj : j < z.length), (z.map (·.1))[j]? = some z[j].1 := fun j hj => by simp [List.getElem?_eq_getElem hj]
  intro d
  induction d with
  | zero =>
    intro k f hk hf
    obtain ⟨f, rfl⟩ : ∃ q, f = q + 1 := ⟨f - 1, by omega⟩
    refine ⟨f, by omega, ?_⟩
    refine (orK3 _ _).trans ?_
    unfold B9_0_17
    rw [decide_eq_false (by simp only []; omega), cond_false]
    simp only [Bool.not_true, cond_false]
    rw [s64 (by omega)]
    rfl
  | succ d ih =>
    intro k f hk hf
    obtain ⟨f, rfl⟩ : ∃ q, f = q + 1 := ⟨f - 1, by omega⟩
    obtain ⟨f', h1, h2⟩ := ih (k + 1) f (by omega) (by omega)
    have hne : z[k].1 ≠ z[i].1 := (List.pairwise_iff_getElem.1 hz.ne) k i (by omega) hi (by omega)
    refine ⟨f', by omega, ?_⟩
    refine (orK3 _ _).trans ?_
    unfold B9_0_17
    rw [decide_eq_true (by simp only []; omega), cond_true]
    simp only [lm, sidx hi, sidx (show k < z.length by omega), bnd', gm i hi, gm k (by omega)]
    rw [show (z[k].1 == z[i].1) = false from beq_eq_false_iff_ne.2 hne, cond_false, s64 (by omega)]
    rw [show ((k + 1 : Nat) : Int) = (k : Int) + 1 by omega] at h2
    exact h2
theorem or_out (cars : CarsT) (z : List Al) (hz : Zok cars z) (hl : ∀ l ∈ cars, l.length ≤ 300) : ∀ (d i f : Nat), i + d = z.length → 400 * (d + 1) < f →
    (K9_0 f).1 ((cars, (i : Int)), (z.map (·.2), z.map (·.1))) = some true := by
  have h30 := hz.len
  have lm : (z.map (·.1)).length = z.length := List.length_map _
  have lm2 : (z.map (·.2)).length = z.length := List.length_map _
  have gm : ∀ j (hj : j < z.length), (z.map (·.1))[j]? = some z[j].1 := fun j hj => by simp [List.getElem?_eq_getElem hj]
  have gm2 : ∀ j (hj : j < z.length), (z.map (·.2))[j]? = some z[j].2 := fun j hj => by simp [List.getElem?_eq_getElem hj]
  intro d
  induction d with
  | zero =>
    intro i f hi hf
    obtain ⟨f, rfl⟩ : ∃ q, f = q + 1 := ⟨f - 1, by omega⟩
    refine (orK1 _ _).trans ?_
    unfold B9_0_7
    simp only [lm]
    rw [decide_eq_false (by omega), cond_false, awake44, bnd']
  | succ d ih =>
    intro i f hi hf
    obtain ⟨f, rfl⟩ : ∃ q, f = q + 1 := ⟨f - 1, by omega⟩
    have hil : i < z.length := by omega
    obtain ⟨r1, r2, r3⟩ := hz.rng _ (List.getElem_mem hil)
    obtain ⟨c, hc⟩ := Int.eq_ofNat_of_zero_le r1
    have hcl : c < cars.length := by omega
    rw [hc, Int.toNat_natCast] at r3
    have hg : cars.getD c [] = cars[c] := by simp [List.getD, List.getElem?_eq_getElem hcl]
    rw [hg] at r3
    have h300 := hl _ (List.getElem_mem hcl)
    obtain ⟨f1, g1, g2⟩ := or_done cars z hz hl hil hcl hc cars[c].length 0 f false (by omega) (by omega) (.inr (by rw [List.drop_zero]; exact r3))
    obtain ⟨f2, g3, g4⟩ := or_dup cars z hz hil i 0 f1 (by omega) (by omega)
    have e := ih (i + 1) f2 (by omega) (by omega)
    have fin : (K9_0 f).2.1 ((cars, ((i : Int), (false, (0 : Int)))), (z.map (·.2), z.map (·.1))) = some true := g2.trans (g4.trans e)
    refine (orK1 _ _).trans ?_
    unfold B9_0_7
    simp only [lm, lm2]
    rw [decide_eq_true (by omega), cond_true]
    simp only [sidx hil, bnd', gm i hil]
    rw [decide_eq_false (by omega), cond_false, decide_eq_false (by omega), cond_false]
    by_cases h0 : i = 0
    · rw [decide_eq_false (by omega), cond_false]
      exact fin
    · rw [decide_eq_true (by omega), cond_true]
      have hle : z[i - 1].2 ≤ z[i].2 := (List.pairwise_iff_getElem.1 hz.srt) (i - 1) i (by omega) hil (by omega)
      have w1 : IntKind.wrap .i64 ((i : Int) - 1) = ((i - 1 : Nat) : Int) := by rw [s64 (by omega)]; omega
      simp only [w1, sidx (show i - 1 < z.length by omega), bnd', gm2 i hil, gm2 (i - 1) (by omega)]
      rw [decide_eq_false (by omega), cond_false]
      exact fin
theorem coreOrder (v) (h : Dom9_0 v) (fu : Nat) (hfu : 15000 < fu) : E9_0 (K9_0 fu) v = some true := by
  obtain ⟨r, cars⟩ := v
  unfold E9_0
  simp only []
  obtain ⟨b, e, hb⟩ := few_p cars
  rw [e, bnd']
  cases b with
  | false => rw [Bool.not_false, cond_true]
  | true =>
    rw [Bool.not_true, cond_false]
    obtain ⟨hc, hl⟩ := hb rfl
    obtain ⟨z0, z, p1, p2, p3, p4⟩ := classify_p r cars hc hl
    rw [p4, bnd']
    simp only [List.length_map, bne_self_eq_false, cond_false]
    have ok : Zok cars z := by
      refine ⟨fun x hx => p1.rng x (p2.subset hx), ?_, ?_, by rw [p2.length_eq]; have := p1.len; omega⟩
      · have n0 : z0.Pairwise (fun a b => a.1 ≠ b.1) := p1.up.imp (fun h => by omega)
        exact (List.Perm.pairwise_iff (fun h => fun e => h e.symm) p2).2 n0
      · refine p3.imp (fun {a b} h => ?_)
        have : ¬ cmpv () b a < 0 := h
        rw [cmp_key] at this
        omega
    exact or_out cars z ok hl z.length 0 fu (by omega) (by have := ok.len; omega)
theorem law9_0 (v) (h : Dom9_0 v) : F9_0 v = some true := by
  have hF : F9_0 v = E9_0 (K9_0 (fuel9_0 v)) v := rfl
  rw [hF, show fuel9_0 v = 20000 from rfl]
  exact coreOrder v h 20000 (by omega)
end Go.Proofs.Ythlnocpbdhcnlaa.Ev
