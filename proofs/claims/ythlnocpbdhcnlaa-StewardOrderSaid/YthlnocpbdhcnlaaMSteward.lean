/- The steward: penalties. -/
import Derived.Test.YthlnocpbdhcnlaaEvA
import Derived.Test.YthlnocpbdhcnlaaXFns
set_option linter.unusedVariables false
set_option linter.unusedSimpArgs false
namespace Go.Proofs.Ythlnocpbdhcnlaa.Ev
open Go

abbrev EvT : Type := Int × Int × Int × Int
abbrev RuT : Type := Int × Int × Int × Int
abbrev PeT : Type := Int × Int × Bool
theorem bnd' {α β : Type} (a : α) (f : α → Option β) : (some a).bind f = f a := (congrArg (fun x => Option.bind x f) (Eq.refl (some a))).trans (Eq.refl (f a))
theorem s64 {n : Int} (h : -9223372036854775808 ≤ n ∧ n ≤ 9223372036854775807) : IntKind.wrap .i64 n = n := by rw [IntKind.wrap_i64]; omega
theorem srd {α : Type} {l : List α} {i : Nat} (h : i < l.length) : rdx l (i : Int) = some l[i] := by
  unfold rdx
  rw [decide_eq_true (by omega)]
  simp [List.getElem?_eq_getElem h]
theorem sidx {i n : Nat} (h : i < n) : idx (i : Int) n = some i := by unfold idx; rw [decide_eq_true (by omega)]; simp
def MayP (r : RuT) : Prop := (0 ≤ r.1 ∧ r.1 ≤ 1125899906842624) ∧ (0 ≤ r.2.1 ∧ r.2.1 ≤ 1125899906842624) ∧ (0 ≤ r.2.2.1 ∧ r.2.2.1 ≤ 1000) ∧ (0 ≤ r.2.2.2 ∧ r.2.2.2 ≤ 1000)
instance (r : RuT) : Decidable (MayP r) := by unfold MayP; infer_instance
theorem may_p (r : RuT) : F30_0 r = some (decide (MayP r)) := by
  obtain ⟨a, b, c, d⟩ := r
  unfold F30_0
  simp only []
  have e : MayP (a, b, c, d) ↔ (0 ≤ a ∧ a ≤ 1125899906842624) ∧ (0 ≤ b ∧ b ≤ 1125899906842624) ∧ (0 ≤ c ∧ c ≤ 1000) ∧ (0 ≤ d ∧ d ≤ 1000) := Iff.rfl
  by_cases h1 : (if b < a then b else a) ≥ 0
  case neg => rw [decide_eq_false h1, cond_false, decide_eq_false (fun h => by rw [e] at h; split at h1 <;> omega)]
  rw [decide_eq_true h1, cond_true]
  by_cases h2 : (if b > a then b else a) ≤ 1125899906842624
  case neg => rw [decide_eq_false h2, cond_false, decide_eq_false (fun h => by rw [e] at h; split at h2 <;> omega)]
  rw [decide_eq_true h2, cond_true]
  by_cases h3 : (if d < c then d else c) ≥ 0
  case neg => rw [decide_eq_false h3, cond_false, decide_eq_false (fun h => by rw [e] at h; split at h3 <;> omega)]
  rw [decide_eq_true h3, cond_true]
  refine congrArg some (decide_eq_decide.2 ?_)
  rw [e]
  split at h1 <;> split at h2 <;> split at h3 <;> split <;> omega
/-! ### What the rules say -/
def fol (p e : EvT) : Bool := (p.1 == 4) && ((p.2.2.1 == e.2.2.1) && (p.2.1 == e.2.1))
/-- A penalty for an event, and how many are free after it. -/
def pen (r : RuT) (p : EvT) (free : Int) (e : EvT) : Option PeT × Int :=
  bif e.1 == 4 then (some (e.2.2.1, (r.1, false)), free)
  else bif e.1 == 5 && !fol p e then (bif decide (free > 0) then (none, free - 1) else (some (e.2.2.1, (r.2.1, true)), free))
  else (none, free)
def judge (r : RuT) : EvT → Int → List PeT → List EvT → List PeT × Bool
  | _, _, out, [] => (out, false)
  | p, free, out, e :: es => match pen r p free e with
    | (some q, f') => bif ((out ++ [q]).length : Int) == r.2.2.2 then (out ++ [q], true) else judge r e f' (out ++ [q]) es
    | (none, f') => judge r e f' out es
theorem round_eq (q : PeT) (out o6 : List PeT) (e0 : Int) (x0 : Bool) (r : RuT) (hl : out.length ≤ 300) :
    F10246_y0 (q, (out, (e0, (x0, (o6, r))))) = some (bif ((out ++ [q]).length : Int) == r.2.2.2 then .inl (false, (0, (true, (out ++ [q], (r, o6))))) else .inr (true, (out ++ [q], (e0, (x0, (r, o6)))))) := by
  unfold F10246_y0
  simp only []
  rw [decide_eq_true (by simp; omega)]
  simp only [chk, Option.bind_some]
  cases ((out ++ [q]).length : Int) == r.2.2.2 <;> rfl
def prevOf (l : List EvT) (i : Nat) : EvT := match i with | 0 => (0, (0, (0, 0))) | i + 1 => l.getD i (0, (0, (0, 0)))
theorem prevOf_succ {l : List EvT} {i : Nat} (h : i < l.length) : prevOf l (i + 1) = l[i] := by simp [prevOf, List.getD, List.getElem?_eq_getElem h]
theorem gvK (n : Nat) : K44_0 (n + 1) = B44_0_3 (K44_0 n) := rfl
def outP (j : List PeT × Bool) (l : List EvT) (r : RuT) (e0 : Int) (x0 : Bool) (o6 : List PeT) : R44_0 :=
  bif j.2 then .inl (l, (r, (0, (true, (j.1, (r, o6)))))) else .inr (l, (r, (j.1, (e0, (x0, (r, o6))))))
theorem given_loop (l l2 : List EvT) (r : RuT) (hr : MayP r) (hl : l.length ≤ 300) (e0 : Int) (x0 : Bool) (o6 : List PeT) : ∀ (d i f : Nat) (free : Int) (out : List PeT) (p : EvT), i + d = l.length → d < f → 0 ≤ free → free ≤ 1000 → out.length ≤ i →
    K44_0 f ((free, (l, ((l.length : Int), (i : Int)))), (p, (l2, (r, (out, (e0, (x0, (r, o6)))))))) = some (outP (judge r p free out (l.drop i)) l2 r e0 x0 o6) := by
  intro d
  induction d with
  | zero =>
    intro i f free out p hi hf h0 h1 ho
    obtain ⟨f, rfl⟩ : ∃ q, f = q + 1 := ⟨f - 1, by omega⟩
    rw [gvK]
    unfold B44_0_3
    rw [decide_eq_false (by simp only []; omega), cond_false, List.drop_eq_nil_of_le (by omega)]
    rfl
  | succ d ih =>
    intro i f free out p hi hf h0 h1 ho
    obtain ⟨f, rfl⟩ : ∃ q, f = q + 1 := ⟨f - 1, by omega⟩
    have hil : i < l.length := by omega
    have nx := fun free out p a b c => ih (i + 1) f free out p (by omega) (by omega) a b c
    rw [List.drop_eq_getElem_cons hil]
    rw [show ((i + 1 : Nat) : Int) = (i : Int) + 1 by omega] at nx
    generalize he : l[i] = e at *
    have n1 := nx free out e h0 h1 (by omega)
    have n2 := fun q => nx free (out ++ [q]) e h0 h1 (by simp; omega)
    have rd := srd hil
    rw [he] at rd
    rw [gvK]
    unfold B44_0_3 judge pen fol
    rw [decide_eq_true (by simp only []; omega), cond_true]
    have w1 : IntKind.wrap .i64 ((i : Int) + 1) = (i : Int) + 1 := s64 (by omega)
    have hol : out.length ≤ 300 := by omega
    simp only [rd, bnd', w1, round_eq _ _ _ _ _ _ hol]
    by_cases hfr : free > 0
    · have n3 := nx (free - 1) out e (by omega) (by omega) (by omega)
      have w2 : IntKind.wrap .i64 (free - 1) = free - 1 := s64 (by omega)
      have d1 : decide (free > 0) = true := decide_eq_true hfr
      simp only [w2, d1, show (e.1 != 5) = !(e.1 == 5) from rfl]
      generalize hq1 : (((out ++ [(e.2.2.1, (r.1, false))]).length : Int) == r.2.2.2) = b1
      generalize hq2 : (((out ++ [(e.2.2.1, (r.2.1, true))]).length : Int) == r.2.2.2) = b2
      generalize (p.1 == 4) = c1
      generalize (p.2.2.1 == e.2.2.1) = c2
      generalize (p.2.1 == e.2.1) = c3
      generalize (e.1 == 4) = c4
      generalize (e.1 == 5) = c5
      cases c4 <;> cases c5 <;> cases c1 <;> cases c2 <;> cases c3 <;> cases b1 <;> cases b2 <;> simp only [cond_true, cond_false, Bool.not_true, Bool.not_false, Bool.and_true, Bool.and_false, Bool.true_and, Bool.false_and, n1, n2, n3, hq1, hq2] <;> first | rfl | exact n1 | exact n2 _ | exact n3
    · have d1 : decide (free > 0) = false := decide_eq_false hfr
      simp only [d1, show (e.1 != 5) = !(e.1 == 5) from rfl]
      generalize hq1 : (((out ++ [(e.2.2.1, (r.1, false))]).length : Int) == r.2.2.2) = b1
      generalize hq2 : (((out ++ [(e.2.2.1, (r.2.1, true))]).length : Int) == r.2.2.2) = b2
      generalize (p.1 == 4) = c1
      generalize (p.2.2.1 == e.2.2.1) = c2
      generalize (p.2.1 == e.2.1) = c3
      generalize (e.1 == 4) = c4
      generalize (e.1 == 5) = c5
      cases c4 <;> cases c5 <;> cases c1 <;> cases c2 <;> cases c3 <;> cases b1 <;> cases b2 <;> simp only [cond_true, cond_false, Bool.not_true, Bool.not_false, Bool.and_true, Bool.and_false, Bool.true_and, Bool.false_and, n1, n2, hq1, hq2] <;> first | rfl | exact n1 | exact n2 _
def judgeS (r : RuT) (l : List EvT) : (Bool × Int) × List PeT := if MayP r then (((judge r (0, (0, (0, 0))) r.2.2.1 [] l).2, 0), (judge r (0, (0, (0, 0))) r.2.2.1 [] l).1) else ((false, 40), [])
theorem judge_p (r : RuT) (l : List EvT) (hl : l.length ≤ 300) : F10_0 (r, l) = some (judgeS r l) := by
  unfold F10_0 E10_0 judgeS
  simp only [may_p, bnd']
  by_cases h : MayP r
  case neg => rw [decide_eq_false h, if_neg h]; rfl
  rw [decide_eq_true h, if_pos h, Bool.not_true, cond_false]
  unfold F31_0
  rw [bnd', show fuel10_0 (r, l) = 999 + 1 from rfl]
  show B10_0_6 (K10_0 999) _ = _
  unfold B10_0_6 F44_0 E44_0
  have g := given_loop l l r h hl 0 false [] l.length 0 1000 r.2.2.1 [] (0, (0, (0, 0))) (by omega) (by omega) h.2.2.1.1 h.2.2.1.2 (by simp)
  rw [List.drop_zero] at g
  have g' : K44_0 1000 ((r.2.2.1, (l, ((l.length : Int), (0 : Int)))), ((0, (0, (0, 0))), (l, (r, ([], (0, (false, (r, [])))))))) = _ := g
  simp only [] at g' ⊢
  rw [show fuel44_0 (l, (r, ([], (0, (false, ([], r)))))) = 1000 from rfl, g', bnd']
  unfold outP
  cases hj : (judge r (0, (0, (0, 0))) r.2.2.1 [] l).2 <;> simp only [cond_true, cond_false]
def freeOf (r : RuT) (cuts : Int) : Int := if cuts < r.2.2.1 then r.2.2.1 - cuts else 0
def outR (j : List PeT × Bool) : (Bool × Int) × List PeT := ((j.2, 0), j.1)
end Go.Proofs.Ythlnocpbdhcnlaa.Ev
