/- The gates in a lap: what the program passes, and what the document passes. -/
import Derived.Test.YtdjjinfpfjoniaaMPlane
set_option linter.unusedVariables false
set_option linter.unusedSimpArgs false
namespace Go.Proofs.Ytdjjinfpfjoniaa.Ev
open Go

abbrev Gt : Type := Int × Int × Int × Int × Bool
abbrev Ps : Type := Int × Int × Bool
def fwdS (g : Gt) (p q : V2) : Int × Bool := crossS (g.1, g.2.1) (g.2.2.1, g.2.2.2.1) p q
def bwdS (g : Gt) (p q : V2) : Int × Bool := crossS (g.2.2.1, g.2.2.2.1) (g.1, g.2.1) p q
def backS (l : List Gt) (k : Nat) (p q : V2) : List Ps :=
  match l[k]? with
  | none => []
  | some g => if (bwdS g p q).2 then [((k : Int), ((bwdS g p q).1, true))] else []
def rowS (l : List Gt) (nx : Nat) (p q : V2) : Nat → Nat → Int → List Ps
  | 0, _, _ => []
  | d + 1, i, last =>
    match l[(nx + i) % l.length]? with
    | none => []
    | some g => if (fwdS g p q).2 = true ∧ last ≤ (fwdS g p q).1 then ((((nx + i) % l.length : Nat) : Int), ((fwdS g p q).1, false)) :: rowS l nx p q d (i + 1) (fwdS g p q).1 else []
def endS (l : List Gt) (nx : Nat) (p q : V2) (out : List Ps) : List Ps := if out = [] then backS l ((nx + l.length - 1) % l.length) p q else out
def passS (l : List Gt) (next : Int) (p q : V2) : List Ps := if 0 ≤ next ∧ next < l.length then endS l next.toNat p q (rowS l next.toNat p q l.length 0 0) else []

theorem tmodN (a b : Nat) : Int.tmod (a : Int) (b : Int) = ((a % b : Nat) : Int) := rfl
theorem w64 {x : Int} (h : -9223372036854775808 ≤ x ∧ x ≤ 9223372036854775807) : IntKind.wrap .i64 x = x := by rw [IntKind.wrap_i64]; omega
theorem wN {x : Int} {n : Nat} (h : x = n) (hn : n ≤ 9223372036854775807) : IntKind.wrap .i64 x = (n : Int) := by rw [w64 (by omega), h]

def fin10 (l : List Gt) (nx : Int) (p q : V2) (out : List Ps) : Option (List Ps) :=
  bif (decide ((out.length : Int) > (0 : Int))) then some out
  else
    let x : Int := IntKind.wrap .i64 (nx - (1 : Int))
    bif (decide (x < (0 : Int))) then
      let y : Int := IntKind.wrap .i64 ((l.length : Int) - (1 : Int))
      (rdx l y).bind fun a => (rdx l y).bind fun b =>
      (F15_0 ((a.2.2.1, a.2.2.2.1), ((b.1, b.2.1), (p, q)))).bind fun r =>
      bif r.2 then
        (chk (decide ((out.length + ([(y, (r.1, true))] : List Ps).length) * 16 ≤ 140737488355328))).bind fun _ =>
        let o : List Ps := out ++ ([(y, (r.1, true))] : List Ps)
        some o
      else some out
    else
      (rdx l x).bind fun a => (rdx l x).bind fun b =>
      (F15_0 ((a.2.2.1, a.2.2.2.1), ((b.1, b.2.1), (p, q)))).bind fun r =>
      bif r.2 then
        (chk (decide ((out.length + ([(x, (r.1, true))] : List Ps).length) * 16 ≤ 140737488355328))).bind fun _ =>
        let o : List Ps := out ++ ([(x, (r.1, true))] : List Ps)
        some o
      else some out
theorem back10 (l : List Gt) (k : Nat) (hk : k < l.length) (p q : V2) (o : Int → Int → List Ps) (out : List Ps) (ho : out = []) :
    ((rdx l (k : Int)).bind fun a => (rdx l (k : Int)).bind fun b =>
      (F15_0 ((a.2.2.1, a.2.2.2.1), ((b.1, b.2.1), (p, q)))).bind fun r =>
      bif r.2 then
        (chk (decide ((out.length + ([((k : Int), (r.1, true))] : List Ps).length) * 16 ≤ 140737488355328))).bind fun _ =>
        let o : List Ps := out ++ ([((k : Int), (r.1, true))] : List Ps)
        some o
      else some out) = some (backS l k p q) := by
  subst ho
  have hg : l[k]? = some l[k] := List.getElem?_eq_getElem hk
  simp only [rdx_at hg, Option.bind_some, cross_eq]
  unfold backS
  rw [hg]
  generalize l[k] = g
  show (bif (bwdS g p q).2 then _ else _) = some (if (bwdS g p q).2 = true then _ else _)
  cases h : (bwdS g p q).2 with
  | true => rfl
  | false => rfl
theorem back11 (l : List Gt) (k : Nat) (hk : k < l.length) (p q : V2) (out : List Ps) (ho : out = []) :
    ((rdx l (k : Int)).bind fun a => (rdx l (k : Int)).bind fun b =>
      (F21_0 ((a.2.2.1, a.2.2.2.1), ((b.1, b.2.1), (p, q)))).bind fun r =>
      bif r.2 then
        (chk (decide ((out.length + ([((k : Int), (r.1, true))] : List Ps).length) * 16 ≤ 140737488355328))).bind fun _ =>
        let o : List Ps := out ++ ([((k : Int), (r.1, true))] : List Ps)
        some o
      else some out) = some (backS l k p q) := by
  subst ho
  have hg : l[k]? = some l[k] := List.getElem?_eq_getElem hk
  simp only [rdx_at hg, Option.bind_some, rcross_eq]
  unfold backS
  rw [hg]
  generalize l[k] = g
  show (bif (bwdS g p q).2 then _ else _) = some (if (bwdS g p q).2 = true then _ else _)
  cases h : (bwdS g p q).2 with
  | true => rfl
  | false => rfl
theorem fin10_eq (l : List Gt) (hl : l.length ≤ 900) (nx : Nat) (hn : nx < l.length) (p q : V2) (out : List Ps) : fin10 l (nx : Int) p q out = some (endS l nx p q out) := by
  unfold fin10 endS
  by_cases ho : out = []
  · rw [if_pos ho, show decide ((out.length : Int) > 0) = false by subst ho; rfl, cond_false]
    by_cases h0 : nx = 0
    · subst h0
      have e1 : IntKind.wrap .i64 (((0 : Nat) : Int) - 1) = -1 := by rw [w64 (by omega)]; rfl
      have e2 : IntKind.wrap .i64 ((l.length : Int) - 1) = ((l.length - 1 : Nat) : Int) := wN (by omega) (by omega)
      have e3 : (0 + l.length - 1) % l.length = l.length - 1 := by rw [Nat.zero_add, Nat.mod_eq_of_lt (by omega)]
      simp only [e1, e2, e3, decide_eq_true (show (-1 : Int) < 0 by decide), cond_true]
      exact back10 l _ (by omega) p q (fun _ _ => []) out ho
    · have e1 : IntKind.wrap .i64 ((nx : Int) - 1) = ((nx - 1 : Nat) : Int) := wN (by omega) (by omega)
      have e3 : (nx + l.length - 1) % l.length = nx - 1 := by rw [show nx + l.length - 1 = nx - 1 + l.length by omega, Nat.add_mod_right, Nat.mod_eq_of_lt (by omega)]
      simp only [e1, e3, decide_eq_false (show ¬ ((nx - 1 : Nat) : Int) < 0 by omega), cond_false]
      exact back10 l _ (by omega) p q (fun _ _ => []) out ho
  · have h1 : 0 < out.length := List.length_pos_iff.2 ho
    rw [if_neg ho, show decide ((out.length : Int) > 0) = true from decide_eq_true (by omega), cond_true]
theorem p10K (n : Nat) (v) : (K10_0 (n + 1)).2 v = B10_0_5 (K10_0 n) v := rfl
theorem p10K1 (n : Nat) (v) : (K10_0 (n + 1)).1 v = (K10_0 n).2 ((v.1.1, (v.1.2, (((v.1.1).length : Int), (0 : Int)))), v.2) := rfl
theorem p10_loop (l : List Gt) (hl : l.length ≤ 900) (nx : Nat) (hnx : nx < l.length) (p q : V2) : ∀ (d i n : Nat) (out : List Ps) (last : Int), i + d = l.length → d < n → out.length = i → (i = 0 → last = 0) → (0 < i → ∃ x, out[i - 1]? = some x ∧ x.2.1 = last) → (K10_0 n).2 ((l, ((nx : Int), ((l.length : Int), (i : Int)))), (out, (q, p))) = some (endS l nx p q (out ++ rowS l nx p q d i last)) := by
  intro d
  induction d with
  | zero =>
    intro i n out last h hn hout h0 h1
    obtain ⟨n, rfl⟩ : ∃ m, n = m + 1 := ⟨n - 1, by omega⟩
    rw [p10K]
    unfold B10_0_5
    simp only [show decide ((i : Int) < (l.length : Int)) = false from decide_eq_false (by omega), cond_false, rowS, List.append_nil]
    exact fin10_eq l hl nx hnx p q out
  | succ d ih =>
    intro i n out last h hn hout h0 h1
    obtain ⟨n, rfl⟩ : ∃ m, n = m + 1 := ⟨n - 1, by omega⟩
    rw [p10K]
    unfold B10_0_5
    have e1 : IntKind.wrap .i64 ((nx : Int) + (i : Int)) = ((nx + i : Nat) : Int) := wN (by omega) (by omega)
    have hm : (nx + i) % l.length < l.length := Nat.mod_lt _ (by omega)
    have hg : l[(nx + i) % l.length]? = some l[(nx + i) % l.length] := List.getElem?_eq_getElem hm
    simp only [show decide ((i : Int) < (l.length : Int)) = true from decide_eq_true (by omega), cond_true, e1]
    have e5 : IntKind.wrap .i64 ((i : Int) + 1) = ((i + 1 : Nat) : Int) := wN (by omega) (by omega)
    have key : ∀ (x : Int), x = (((nx + i) % l.length : Nat) : Int) →
      ((rdx l x).bind fun (x521 : Gt) =>
      (rdx l x).bind fun (x522 : Gt) =>
      (F15_0 ((x521.1, x521.2.1), ((x522.2.2.1, x522.2.2.2.1), (p, q)))).bind fun r523 =>
      bif (!r523.2) then fin10 l (nx : Int) p q out
      else
        bif (decide ((i : Int) > (0 : Int))) then
          let x534 : Int := (IntKind.wrap .i64 ((i : Int) - (1 : Int)))
          (idx x534 (out).length).bind fun (x535 : Nat) =>
          ((out)[x535]?).bind fun (x536 : Int × Int × Bool) =>
          bif (decide (r523.1 < x536.2.1)) then fin10 l (nx : Int) p q out
          else
            (chk (decide (((out).length + (([(x, (r523.1, false))] : List (Int × Int × Bool))).length) * 16 ≤ 140737488355328))).bind fun _ =>
            let x577 : List (Int × Int × Bool) := (out ++ ([(x, (r523.1, false))] : List (Int × Int × Bool)))
            let x578 : Int := (IntKind.wrap .i64 ((i : Int) + (1 : Int)))
            (K10_0 n).2 ((l, ((nx : Int), ((l.length : Int), x578))), (x577, (q, p)))
        else
          (chk (decide (((out).length + (([(x, (r523.1, false))] : List (Int × Int × Bool))).length) * 16 ≤ 140737488355328))).bind fun _ =>
          let x579 : List (Int × Int × Bool) := (out ++ ([(x, (r523.1, false))] : List (Int × Int × Bool)))
          let x580 : Int := (IntKind.wrap .i64 ((i : Int) + (1 : Int)))
          (K10_0 n).2 ((l, ((nx : Int), ((l.length : Int), x580))), (x579, (q, p)))) = some (endS l nx p q (out ++ rowS l nx p q (d + 1) i last)) := by
      intro x hx
      subst hx
      simp only [rdx_at hg, Option.bind_some, cross_eq]
      rw [rowS, hg]
      generalize l[(nx + i) % l.length] = g
      have hc := cross_part (g.1, g.2.1) (g.2.2.1, g.2.2.2.1) p q
      change 0 ≤ (fwdS g p q).1 ∧ _ at hc
      change (bif !(fwdS g p q).2 then _ else bif decide ((i : Int) > 0) then ((idx _ out.length).bind fun x535 => (out[x535]?).bind fun x536 => bif decide ((fwdS g p q).1 < x536.2.1) then _ else _) else _) = some (endS l nx p q (out ++ if (fwdS g p q).2 = true ∧ last ≤ (fwdS g p q).1 then _ else []))
      have hchk : ∀ (y : Ps), chk (decide ((out.length + ([y] : List Ps).length) * 16 ≤ 140737488355328)) = some () := by
        intro y
        rw [decide_eq_true (by simp only [List.length_cons, List.length_nil]; omega)]; rfl
      cases hb : (fwdS g p q).2 with
      | false =>
        simp only [Bool.not_false, cond_true, Bool.false_eq_true, false_and, if_false, List.append_nil]
        exact fin10_eq l hl nx hnx p q out
      | true =>
        simp only [Bool.not_true, cond_false, true_and]
        by_cases hi : i = 0
        · have hlast : last = 0 := h0 hi
          rw [show decide ((i : Int) > 0) = false from decide_eq_false (by omega), cond_false, if_pos (by omega)]
          refine (congrArg (fun o => Option.bind o _) (hchk _)).trans ?_
          simp only [Option.bind_some]
          rw [e5]
          refine (ih (i + 1) n _ (fwdS g p q).1 (by omega) (by omega) (by simp [hout]) (by omega) (fun _ => ?_)).trans ?_
          · exact ⟨((((nx + i) % l.length : Nat) : Int), ((fwdS g p q).1, false)), by simp [← hout]; rfl, rfl⟩
          · rw [List.append_assoc, List.singleton_append]; rfl
        · obtain ⟨y, hy, hyl⟩ := h1 (by omega)
          rw [show decide ((i : Int) > 0) = true from decide_eq_true (by omega), cond_true]
          have e6 : IntKind.wrap .i64 ((i : Int) - 1) = ((i - 1 : Nat) : Int) := wN (by omega) (by omega)
          simp only [e6, idx_at (show i - 1 < out.length by omega), Option.bind_some, hy, hyl]
          by_cases hlt : (fwdS g p q).1 < last
          · rw [decide_eq_true hlt, cond_true, if_neg (by omega), List.append_nil]
            exact fin10_eq l hl nx hnx p q out
          · rw [decide_eq_false hlt, cond_false, if_pos (by omega)]
            refine (congrArg (fun o => Option.bind o _) (hchk _)).trans ?_
            simp only [Option.bind_some]
            rw [e5]
            refine (ih (i + 1) n _ (fwdS g p q).1 (by omega) (by omega) (by simp [hout]) (by omega) (fun _ => ?_)).trans ?_
            · exact ⟨((((nx + i) % l.length : Nat) : Int), ((fwdS g p q).1, false)), by simp [← hout]; rfl, rfl⟩
            · rw [List.append_assoc, List.singleton_append]; rfl
    by_cases hge : nx + i ≥ l.length
    · have e2 : IntKind.wrap .i64 (((nx + i : Nat) : Int) - (l.length : Int)) = (((nx + i) % l.length : Nat) : Int) := by
        rw [Nat.mod_eq_sub_mod hge, Nat.mod_eq_of_lt (show nx + i - l.length < l.length by omega)]
        exact wN (by omega) (by omega)
      simp only [show decide (((nx + i : Nat) : Int) ≥ (l.length : Int)) = true from decide_eq_true (by omega), cond_true]
      exact key _ e2
    · simp only [show decide (((nx + i : Nat) : Int) ≥ (l.length : Int)) = false from decide_eq_false (by omega), cond_false]
      exact key _ (by rw [Nat.mod_eq_of_lt (show nx + i < l.length by omega)])
theorem p10_eq (l : List Gt) (hl : l.length ≤ 900) (next : Int) (p q : V2) : F10_0 (l, (next, (p, q))) = some (passS l next p q) := by
  have E : ∀ K, E10_0 K (l, (next, (p, q))) = bif decide (next < 0) then some [] else bif decide (next ≥ (l.length : Int)) then some [] else K.1 ((l, next), ([], (q, p))) := fun _ => rfl
  refine (E (K10_0 1000)).trans ?_
  unfold passS
  by_cases h0 : next < 0
  · rw [decide_eq_true h0, cond_true, if_neg (by omega)]
  · rw [decide_eq_false h0, cond_false]
    by_cases h1 : next ≥ (l.length : Int)
    · rw [decide_eq_true h1, cond_true, if_neg (by omega)]
    · rw [decide_eq_false h1, cond_false, if_pos (by omega)]
      obtain ⟨nx, rfl⟩ : ∃ nx : Nat, next = nx := ⟨next.toNat, by omega⟩
      refine (p10K1 999 _).trans ?_
      exact p10_loop l hl nx (by omega) p q l.length 0 999 [] 0 (by omega) (by omega) rfl (fun _ => rfl) (by omega)
def fin11 (l : List Gt) (nx : Int) (p q : V2) (out : List Ps) : Option (List Ps) :=
  bif (decide ((out.length : Int) > (0 : Int))) then some out
  else
    let x0 : Int := IntKind.wrap .i64 (nx + (l.length : Int))
    let x1 : Int := IntKind.wrap .i64 (x0 - (1 : Int))
    (chk ((l.length : Int) != 0)).bind fun _ =>
    let x : Int := Int.tmod x1 (l.length : Int)
    (rdx l x).bind fun a => (rdx l x).bind fun b =>
    (F21_0 ((a.2.2.1, a.2.2.2.1), ((b.1, b.2.1), (p, q)))).bind fun r =>
    bif r.2 then
      (chk (decide ((out.length + ([(x, (r.1, true))] : List Ps).length) * 16 ≤ 140737488355328))).bind fun _ =>
      let o : List Ps := out ++ ([(x, (r.1, true))] : List Ps)
      some o
    else some out
theorem chk_ne {n : Nat} (h : n ≠ 0) : chk ((n : Int) != 0) = some () := by
  have : ((n : Int) != 0) = true := by simp; omega
  rw [this]; rfl
theorem fin11_eq (l : List Gt) (hl : l.length ≤ 900) (nx : Nat) (hn : nx < l.length) (p q : V2) (out : List Ps) : fin11 l (nx : Int) p q out = some (endS l nx p q out) := by
  unfold fin11 endS
  by_cases ho : out = []
  · rw [if_pos ho, show decide ((out.length : Int) > 0) = false by subst ho; rfl, cond_false]
    have e1 : IntKind.wrap .i64 ((nx : Int) + (l.length : Int)) = ((nx + l.length : Nat) : Int) := wN (by omega) (by omega)
    have e2 : IntKind.wrap .i64 (((nx + l.length : Nat) : Int) - 1) = ((nx + l.length - 1 : Nat) : Int) := wN (by omega) (by omega)
    simp only [e1, e2, chk_ne (show l.length ≠ 0 by omega), Option.bind_some, tmodN]
    exact back11 l _ (Nat.mod_lt _ (by omega)) p q out ho
  · have h1 : 0 < out.length := List.length_pos_iff.2 ho
    rw [if_neg ho, show decide ((out.length : Int) > 0) = true from decide_eq_true (by omega), cond_true]
theorem p11K (n : Nat) (v) : K11_0 (n + 1) v = B11_0_8 (K11_0 n) v := rfl
theorem p11_loop (l : List Gt) (hl : l.length ≤ 900) (nx : Nat) (hnx : nx < l.length) (p q : V2) : ∀ (d i n : Nat) (out : List Ps) (last : Int), i + d = l.length → d < n → out.length = i → K11_0 n ((l, ((nx : Int), ((l.length : Int), ((((nx + i) % l.length : Nat) : Int), (last, (i : Int)))))), (out, (q, p))) = some (endS l nx p q (out ++ rowS l nx p q d i last)) := by
  intro d
  induction d with
  | zero =>
    intro i n out last h hn hout
    obtain ⟨n, rfl⟩ : ∃ m, n = m + 1 := ⟨n - 1, by omega⟩
    rw [p11K]
    unfold B11_0_8
    simp only [show decide ((i : Int) < (l.length : Int)) = false from decide_eq_false (by omega), cond_false, rowS, List.append_nil]
    exact fin11_eq l hl nx hnx p q out
  | succ d ih =>
    intro i n out last h hn hout
    obtain ⟨n, rfl⟩ : ∃ m, n = m + 1 := ⟨n - 1, by omega⟩
    rw [p11K]
    unfold B11_0_8
    have hm : (nx + i) % l.length < l.length := Nat.mod_lt _ (by omega)
    have hg : l[(nx + i) % l.length]? = some l[(nx + i) % l.length] := List.getElem?_eq_getElem hm
    have e5 : IntKind.wrap .i64 ((i : Int) + 1) = ((i + 1 : Nat) : Int) := wN (by omega) (by omega)
    have e7 : IntKind.wrap .i64 ((((nx + i) % l.length : Nat) : Int) + 1) = (((nx + i) % l.length + 1 : Nat) : Int) := wN (by omega) (by omega)
    have e8 : Int.tmod (((nx + i) % l.length + 1 : Nat) : Int) (l.length : Int) = (((nx + (i + 1)) % l.length : Nat) : Int) := by
      rw [tmodN, Nat.mod_add_mod, Nat.add_assoc]
    simp only [show decide ((i : Int) < (l.length : Int)) = true from decide_eq_true (by omega), cond_true, rdx_at hg, Option.bind_some, rcross_eq]
    rw [rowS, hg]
    generalize l[(nx + i) % l.length] = g
    change (bif !(fwdS g p q).2 then _ else bif decide ((fwdS g p q).1 < last) then _ else _) = some (endS l nx p q (out ++ if (fwdS g p q).2 = true ∧ last ≤ (fwdS g p q).1 then _ else []))
    have hchk : ∀ (y : Ps), chk (decide ((out.length + ([y] : List Ps).length) * 16 ≤ 140737488355328)) = some () := by
      intro y
      rw [decide_eq_true (by simp only [List.length_cons, List.length_nil]; omega)]; rfl
    cases hb : (fwdS g p q).2 with
    | false =>
      simp only [Bool.not_false, cond_true, Bool.false_eq_true, false_and, if_false, List.append_nil]
      have hf := fin11_eq l hl nx hnx p q out
      simp only [fin11, rcross_eq, Option.bind_some] at hf
      exact hf
    | true =>
      simp only [Bool.not_true, cond_false, true_and]
      by_cases hlt : (fwdS g p q).1 < last
      · rw [decide_eq_true hlt, cond_true, if_neg (by omega), List.append_nil]
        have hf := fin11_eq l hl nx hnx p q out
        simp only [fin11, rcross_eq, Option.bind_some] at hf
        exact hf
      · rw [decide_eq_false hlt, cond_false, if_pos (by omega)]
        refine (congrArg (fun o => Option.bind o _) (hchk _)).trans ?_
        simp only [Option.bind_some, chk_ne (show l.length ≠ 0 by omega), e5, e7, e8]
        refine (ih (i + 1) n _ (fwdS g p q).1 (by omega) (by omega) (by simp [hout])).trans ?_
        rw [List.append_assoc, List.singleton_append]; rfl
theorem p11_eq (l : List Gt) (hl : l.length ≤ 900) (next : Int) (p q : V2) : F11_0 (l, (next, (p, q))) = some (passS l next p q) := by
  have E : ∀ K, E11_0 K (l, (next, (p, q))) = bif decide (next < 0) then some [] else bif decide (next ≥ (l.length : Int)) then some [] else K ((l, (next, ((l.length : Int), (next, (0, 0))))), ([], (q, p))) := fun _ => rfl
  refine (E (K11_0 1000)).trans ?_
  unfold passS
  by_cases h0 : next < 0
  · rw [decide_eq_true h0, cond_true, if_neg (by omega)]
  · rw [decide_eq_false h0, cond_false]
    by_cases h1 : next ≥ (l.length : Int)
    · rw [decide_eq_true h1, cond_true, if_neg (by omega)]
    · rw [decide_eq_false h1, cond_false, if_pos (by omega)]
      obtain ⟨nx, rfl⟩ : ∃ nx : Nat, next = nx := ⟨next.toNat, by omega⟩
      have := p11_loop l hl nx (by omega) p q l.length 0 1000 [] 0 (by omega) (by omega) rfl
      rwa [Nat.add_zero, Nat.mod_eq_of_lt (by omega)] at this

/- The gate that stands next after some passes. -/
def rightsS (ps : List Ps) : Nat := (ps.filter fun x => !x.2.2).length
def nextS (l : List Gt) (next : Int) (ps : List Ps) : Int := if 0 ≤ next ∧ next < l.length then (((next.toNat + rightsS ps) % l.length : Nat) : Int) else next
theorem n12K (n : Nat) (v) : K12_0 (n + 1) v = B12_0_5 (K12_0 n) v := rfl
theorem rights_step (ps : List Ps) (i : Nat) (hi : i < ps.length) : rightsS (ps.take (i + 1)) = rightsS (ps.take i) + (if ps[i].2.2 then 0 else 1) := by
  unfold rightsS
  rw [List.take_succ_eq_append_getElem hi, List.filter_append, List.length_append]
  congr 1
  generalize ps[i] = y
  obtain ⟨a, b, c⟩ := y
  cases c <;> rfl
theorem rights_le (ps : List Ps) : rightsS ps ≤ ps.length := List.length_filter_le _ _
theorem n12_loop (l : List Gt) (hl : l.length ≤ 900) (nx : Nat) (hnx : nx < l.length) (ps : List Ps) (hp : ps.length ≤ 900) : ∀ (d i n : Nat), i + d = ps.length → d < n → K12_0 n (l, ((nx : Int), (((rightsS (ps.take i) : Nat) : Int), (ps, ((ps.length : Int), (i : Int)))))) = some (((nx + rightsS ps) % l.length : Nat) : Int) := by
  intro d
  induction d with
  | zero =>
    intro i n h hn
    obtain ⟨n, rfl⟩ : ∃ m, n = m + 1 := ⟨n - 1, by omega⟩
    rw [n12K]
    unfold B12_0_5
    have hr := rights_le ps
    have hm : rightsS ps % l.length < l.length := Nat.mod_lt _ (by omega)
    have e1 : IntKind.wrap .i64 ((nx : Int) + ((rightsS ps % l.length : Nat) : Int)) = ((nx + rightsS ps % l.length : Nat) : Int) := wN (by omega) (by omega)
    simp only [show decide ((i : Int) < (ps.length : Int)) = false from decide_eq_false (by omega), cond_false, List.take_of_length_le (show ps.length ≤ i by omega), chk_ne (show l.length ≠ 0 by omega), Option.bind_some, tmodN, e1, Nat.add_mod_mod]
  | succ d ih =>
    intro i n h hn
    obtain ⟨n, rfl⟩ : ∃ m, n = m + 1 := ⟨n - 1, by omega⟩
    rw [n12K]
    unfold B12_0_5
    have hi : i < ps.length := by omega
    have hg : ps[i]? = some ps[i] := List.getElem?_eq_getElem hi
    have hr := rights_le (ps.take i)
    rw [List.length_take] at hr
    have e5 : IntKind.wrap .i64 ((i : Int) + 1) = ((i + 1 : Nat) : Int) := wN (by omega) (by omega)
    have e6 : IntKind.wrap .i64 (((rightsS (ps.take i) : Nat) : Int) + 1) = ((rightsS (ps.take i) + 1 : Nat) : Int) := wN (by omega) (by omega)
    have hs := rights_step ps i hi
    simp only [show decide ((i : Int) < (ps.length : Int)) = true from decide_eq_true (by omega), cond_true, rdx_at hg, Option.bind_some, e5, e6]
    have := ih (i + 1) n (by omega) (by omega)
    rw [hs] at this
    cases hb : ps[i].2.2 with
    | false => rw [hb] at this; simp only [Bool.not_false, cond_true]; exact this
    | true => rw [hb] at this; simp only [Bool.not_true, cond_false]; exact this
theorem n12_eq (l : List Gt) (hl : l.length ≤ 900) (next : Int) (ps : List Ps) (hp : ps.length ≤ 900) : F12_0 (l, (next, ps)) = some (nextS l next ps) := by
  have E : ∀ K, E12_0 K (l, (next, ps)) = bif decide (next < 0) then some next else bif decide (next ≥ (l.length : Int)) then some next else K (l, (next, (0, (ps, ((ps.length : Int), 0))))) := fun _ => rfl
  refine (E (K12_0 1000)).trans ?_
  unfold nextS
  by_cases h0 : next < 0
  · rw [decide_eq_true h0, cond_true, if_neg (by omega)]
  · rw [decide_eq_false h0, cond_false]
    by_cases h1 : next ≥ (l.length : Int)
    · rw [decide_eq_true h1, cond_true, if_neg (by omega)]
    · rw [decide_eq_false h1, cond_false, if_pos (by omega)]
      obtain ⟨nx, rfl⟩ : ∃ nx : Nat, next = nx := ⟨next.toNat, by omega⟩
      exact n12_loop l hl nx (by omega) ps hp ps.length 0 1000 (by omega) (by omega)
theorem n13K (n : Nat) (v) : K13_0 (n + 1) v = B13_0_4 (K13_0 n) v := rfl
theorem n13_loop (l : List Gt) (hl : l.length ≤ 900) (nx : Nat) (hnx : nx < l.length) (ps : List Ps) (hp : ps.length ≤ 900) : ∀ (d i n : Nat), i + d = ps.length → d < n → K13_0 n (l, ((((nx + rightsS (ps.take i)) % l.length : Nat) : Int), (ps, (i : Int)))) = some (((nx + rightsS ps) % l.length : Nat) : Int) := by
  intro d
  induction d with
  | zero =>
    intro i n h hn
    obtain ⟨n, rfl⟩ : ∃ m, n = m + 1 := ⟨n - 1, by omega⟩
    rw [n13K]
    unfold B13_0_4
    simp only [show decide ((i : Int) < (ps.length : Int)) = false from decide_eq_false (by omega), cond_false, List.take_of_length_le (show ps.length ≤ i by omega)]
  | succ d ih =>
    intro i n h hn
    obtain ⟨n, rfl⟩ : ∃ m, n = m + 1 := ⟨n - 1, by omega⟩
    rw [n13K]
    unfold B13_0_4
    have hi : i < ps.length := by omega
    have hg : ps[i]? = some ps[i] := List.getElem?_eq_getElem hi
    have hm : (nx + rightsS (ps.take i)) % l.length < l.length := Nat.mod_lt _ (by omega)
    have e5 : IntKind.wrap .i64 ((i : Int) + 1) = ((i + 1 : Nat) : Int) := wN (by omega) (by omega)
    have e6 : IntKind.wrap .i64 ((((nx + rightsS (ps.take i)) % l.length : Nat) : Int) + 1) = (((nx + rightsS (ps.take i)) % l.length + 1 : Nat) : Int) := wN (by omega) (by omega)
    have hs := rights_step ps i hi
    simp only [show decide ((i : Int) < (ps.length : Int)) = true from decide_eq_true (by omega), cond_true, rdx_at hg, Option.bind_some, e5, e6, chk_ne (show l.length ≠ 0 by omega), tmodN, Nat.mod_add_mod]
    have := ih (i + 1) n (by omega) (by omega)
    rw [hs] at this
    cases hb : ps[i].2.2 with
    | false => rw [hb] at this; simp only [Bool.not_false, cond_true]; exact this
    | true => rw [hb] at this; simp only [Bool.not_true, cond_false]; exact this
theorem n13_eq (l : List Gt) (hl : l.length ≤ 900) (next : Int) (ps : List Ps) (hp : ps.length ≤ 900) : F13_0 (l, (next, ps)) = some (nextS l next ps) := by
  have E : ∀ K, E13_0 K (l, (next, ps)) = bif decide (next < 0) then some next else bif decide (next ≥ (l.length : Int)) then some next else K (l, (next, (ps, 0))) := fun _ => rfl
  refine (E (K13_0 1000)).trans ?_
  unfold nextS
  by_cases h0 : next < 0
  · rw [decide_eq_true h0, cond_true, if_neg (by omega)]
  · rw [decide_eq_false h0, cond_false]
    by_cases h1 : next ≥ (l.length : Int)
    · rw [decide_eq_true h1, cond_true, if_neg (by omega)]
    · rw [decide_eq_false h1, cond_false, if_pos (by omega)]
      obtain ⟨nx, rfl⟩ : ∃ nx : Nat, next = nx := ⟨next.toNat, by omega⟩
      have := n13_loop l hl nx (by omega) ps hp ps.length 0 1000 (by omega) (by omega)
      simp only [List.take_zero, show rightsS [] = 0 from rfl, Nat.add_zero, Nat.mod_eq_of_lt (show nx < l.length by omega)] at this
      exact this
theorem n12_nx (l : List Gt) (ps : List Ps) : rightsS (ps.take 0) = 0 := rfl
end Go.Proofs.Ytdjjinfpfjoniaa.Ev
