/- Values built, rows made and grown, the builtins. -/
import Derived.Test.YtemdppcnhlnicaaEvG
set_option linter.unusedVariables false
set_option linter.unusedSimpArgs false
namespace Go.Proofs.Ytemdppcnhlnicaa.Ev
open Go Go.RowKit
variable {G : Nat → Type}
section
variable {P : Program} {E : Env G} {C : Oracle G} {fc : FC} {bl : Nat → Nat} {sv : Nat → Value} {st : St G} {a : Act} {w : World}

theorem un_ok (hR : Rel P E fc bl sv st a w) {op : UnOp} {x : AV G} {v : Value} (hx : Rep (st.cx P E fc bl sv w) x v) {e : Eff G} {l : List Nat} (hq : (unQ op x).trace st.blk = some (e, l)) :
    ∃ r, (Op.unary op v).run P w = .ok r w ∧ Out P E fc bl sv st w e r w := by
  unfold unQ at hq
  split at hq
  · obtain rfl := hx.int_inv
    exact ok_of (m := hR.m) hq (by simp [Op.unary, Op.intArith]) (.int _ _)
  · obtain rfl := hx.int_inv
    exact ok_of (m := hR.m) hq (by simp only [Op.unary, intBits_xor, Sem.run_pure]) (.int _ _)
  · obtain rfl := hx.bool_inv
    exact ok_of (m := hR.m) hq (by simp [Op.unary]) (.bool _)
  · cases hq

theorem conv_ok (hR : Rel P E fc bl sv st a w) {s d : Nat} {x : AV G} {v : Value} (hx : Rep (st.cx P E fc bl sv w) x v) {e : Eff G} {l : List Nat} (hq : (convQ P s d x).trace st.blk = some (e, l)) :
    ∃ r, (convert s d v).run P w = .ok r w ∧ Out P E fc bl sv st w e r w := by
  unfold convQ at hq
  split at hq
  · rename_i k0 k k' n hs hd
    obtain rfl := hx.int_inv
    exact ok_of (m := hR.m) hq (by simp [convert, run_underlying hs, run_underlying hd, Conv.intToInt]) (.int _ _)
  · rename_i k0 k n hs hd
    obtain rfl := hx.int_inv
    obtain ⟨_, hk, hq⟩ := opt_inv hq
    exact ok_of (m := hR.m) hq (by simp [convert, run_underlying hs, run_underlying hd, Conv.intToFloat, fl]) (.flt _ (chk_inv hk))
  · rename_i k0 k n hs hd
    obtain ⟨rfl, hn⟩ := hx.flt_inv
    obtain ⟨_, hk, hq⟩ := opt_inv hq
    have hk := of_decide_eq_true (chk_inv hk)
    have e := fl_int hn
    exact ok_of (m := hR.m) hq (by simp [convert, run_underlying hs, run_underlying hd, Conv.floatToInt, e, hk]) (.int _ _)
  · cases hq

/-! ### Building -/
theorem fill_step {off size : Nat} {cells : List Value} {v : Value} (hv : v.cells.toList.length = size) (hle : off + size ≤ cells.length) :
    (v.cells.zipIdx.foldl (fun cs (p : Value × Nat) => cs.setIfInBounds (off + p.2) p.1) cells.toArray) = (cells.take off ++ v.cells.toList ++ cells.drop (off + size)).toArray := by
  have key : ∀ (l : List Value) (k : Nat) (cs : Array Value), (l.zipIdx k).foldl (fun cs (p : Value × Nat) => cs.setIfInBounds (off + p.2) p.1) cs =
      (cs.toList.take (off + k) ++ (l ++ cs.toList.drop (off + k + l.length))).toArray ∨ cs.size < off + k + l.length := by
    intro l
    induction l with
    | nil => intro k cs; left; simp
    | cons x l ih =>
      intro k cs
      by_cases hk : cs.size < off + k + (x :: l).length
      · exact .inr hk
      · left
        simp only [List.length_cons] at hk
        simp only [List.zipIdx_cons, List.foldl_cons]
        rcases ih (k + 1) (cs.setIfInBounds (off + k) x) with h | h
        · rw [h]
          congr 1
          have hlt : off + k < cs.toList.length := by simp; omega
          apply List.ext_getElem?
          intro j
          simp only [Array.toList_setIfInBounds, List.length_cons]
          have e1 : (List.take (off + (k + 1)) (cs.toList.set (off + k) x)).length = off + k + 1 := by simp; omega
          have e2 : (List.take (off + k) cs.toList).length = off + k := by simp; omega
          by_cases c1 : j < off + k
          · rw [List.getElem?_append_left (by omega), List.getElem?_append_left (by omega)]
            simp only [List.getElem?_take, List.getElem?_set]
            rw [if_pos (by omega), if_pos c1, if_neg (by omega)]
          · by_cases c2 : j = off + k
            · subst c2
              rw [List.getElem?_append_left (by omega), List.getElem?_append_right (by omega), e2]
              simp only [List.getElem?_take, List.getElem?_set]
              rw [if_pos (by omega)]
              simpa using hlt
            · obtain ⟨q, hq⟩ : ∃ q, j - (off + k) = q + 1 := ⟨j - (off + k) - 1, by omega⟩
              conv => rhs; rw [List.getElem?_append_right (by omega), e2, hq]; simp only [List.cons_append, List.getElem?_cons_succ]
              rw [List.getElem?_append_right (by omega), e1, show j - (off + k + 1) = q by omega]
              by_cases c3 : q < l.length
              · rw [List.getElem?_append_left c3, List.getElem?_append_left c3]
              · rw [List.getElem?_append_right (by omega), List.getElem?_append_right (by omega)]
                simp only [List.getElem?_drop, List.getElem?_set]
                rw [if_neg (by omega)]
                congr 1; omega
        · simp at h; omega
  have := key v.cells.toList 0 cells.toArray
  rcases this with h | h
  · have e : v.cells.zipIdx.foldl (fun cs (p : Value × Nat) => cs.setIfInBounds (off + p.2) p.1) cells.toArray = (v.cells.toList.zipIdx 0).foldl (fun cs (p : Value × Nat) => cs.setIfInBounds (off + p.2) p.1) cells.toArray := by
      rw [← Array.foldl_toList]; simp
    rw [e, h]
    simp [hv]
  · exfalso
    simp only [List.size_toArray, Nat.add_zero, hv] at h
    omega

theorem fillA_ok {c : Cx G} {place : Nat → Option (Nat × Nat)} : ∀ (ps : List (Nat × Nat × AV G)) (qs : List (Nat × Value)) (cells r : List (AV G)) (vs : List Value), fillA cells ps = some r → Reps c cells vs →
    qs.length = ps.length → (∀ (j : Nat) (p : Nat × Nat × AV G) (q : Nat × Value), ps[j]? = some p → qs[j]? = some q → place q.1 = some (p.1, p.2.1) ∧ Rep c p.2.2 q.2) →
    ∃ us, Instr.fill place vs.toArray qs = some us ∧ Reps c r us.toList := by
  intro ps
  induction ps with
  | nil =>
    intro qs cells r vs h hr hl _
    obtain rfl := List.eq_nil_of_length_eq_zero hl
    obtain rfl : cells = r := by simpa [fillA] using h
    exact ⟨vs.toArray, rfl, hr⟩
  | cons p ps ih =>
    intro qs cells r vs h hr hl hp
    obtain ⟨off, size, x⟩ := p
    cases qs with
    | nil => simp at hl
    | cons q qs =>
      simp only [fillA] at h
      split at h
      · rename_i h1 h2 hone
        obtain ⟨hpl, hx⟩ := hp 0 _ _ rfl rfl
        have hxc := hx.cells hone
        have hsz : q.2.cells.toList.length = size := by rw [hxc.1]; exact Nat.eq_of_beq_eq_true h1
        have hle : off + size ≤ vs.length := by rw [hr.1]; exact Nat.le_of_ble_eq_true h2
        have hnew : Reps c (splice cells off x.cells) (vs.take off ++ q.2.cells.toList ++ vs.drop (off + size)) := by
          have h4 : x.cells.length = size := Nat.eq_of_beq_eq_true h1
          unfold splice; rw [h4]
          exact ((hr.take off).append hxc).append (hr.drop (off + size))
        obtain ⟨us, hus, hru⟩ := ih qs _ r _ h hnew (by simpa using hl) (fun j p' q' h1 h2 => hp (j + 1) p' q' (by simpa using h1) (by simpa using h2))
        refine ⟨us, ?_, hru⟩
        obtain ⟨i, v⟩ := q
        have hsz' : v.cells.size = size := by simpa using hsz
        simp only [Instr.fill, hpl]
        rw [if_neg (by simp only [hsz', ne_eq, not_true_eq_false, List.size_toArray, false_or, Bool.false_or, decide_eq_true_eq, gt_iff_lt, Bool.or_eq_true, bne_self_eq_false]; simp; omega)]
        rw [fill_step hsz hle]
        exact hus
      · cases h

theorem zeroOf_ok {t : Nat} {z : List (AV G)} (h : zeroOf P t = some z) : ∃ v, (zeroValue t).run P w = .ok v w ∧ ∀ c : Cx G, z.all AV.one = true → Reps c z v.cells.toList := by
  unfold zeroOf at h
  split at h
  · rename_i i hi
    obtain ⟨v, hv, rfl⟩ := Option.map_eq_some_iff.1 h
    refine ⟨v, by simp [zeroValue, typeInfo, hi, hv], fun c ho => (Rep.ofV 2 v).cells ho⟩
  · cases h
theorem optMap_inv {α β : Type} (f : α → Option β) : ∀ (l : List α) (r : List β), optMap f l = some r → l.length = r.length ∧ ∀ (j : Nat) (x : α) (y : β), l[j]? = some x → r[j]? = some y → f x = some y := by
  intro l
  induction l with
  | nil =>
    intro r h
    simp only [optMap, Option.some.injEq] at h
    subst h
    exact ⟨rfl, fun j x y h => by simp at h⟩
  | cons a l ih =>
    intro r h
    simp only [optMap] at h
    split at h
    · rename_i y ys h1 h2
      obtain rfl := Option.some.inj h
      obtain ⟨e1, e2⟩ := ih ys h2
      refine ⟨by simp [e1], fun j x y' hx hy => ?_⟩
      cases j with
      | zero => simp at hx hy; subst hx; subst hy; exact h1
      | succ j => exact e2 j x y' (by simpa using hx) (by simpa using hy)
    · cases h
theorem build_ok (hR : Rel P E fc bl sv st a w) {t : Nat} {ps : List (Nat × AV G)} {qs : Array (Nat × Value)} (hl : qs.toList.length = ps.length)
    (hp : ∀ (j : Nat) (p : Nat × AV G) (q : Nat × Value), ps[j]? = some p → qs.toList[j]? = some q → q.1 = p.1 ∧ Rep (st.cx P E fc bl sv w) p.2 q.2) {e : Eff G} {l : List Nat} (hq : (buildQ P t ps).trace st.blk = some (e, l)) :
    ∃ r, (Instr.build t qs).run P w = .ok r w ∧ Out P E fc bl sv st w e r w := by
  unfold buildQ at hq
  split at hq
  · rename_i z hz
    split at hq
    · rename_i hone
      have hz0 := hz
      unfold zeroOf at hz0
      split at hz0
      · rename_i it hit
        obtain ⟨zv, hzv, rfl⟩ := Option.map_eq_some_iff.1 hz0
        have hzr : Reps (st.cx P E fc bl sv w) (AV.ofV 2 zv).cells zv.cells.toList := (Rep.ofV 2 zv).cells hone
        split at hq
        · rename_i fs hu
          split at hq
          · rename_i places hpl
            split at hq
            · rename_i ps' hm
              obtain ⟨r, hr, rfl⟩ := ofO_inv hq
              obtain ⟨cs, hf, rfl⟩ := Option.map_eq_some_iff.1 hr
              obtain ⟨hml, hmm⟩ := optMap_inv _ _ _ hm
              obtain ⟨us, hus, hru⟩ := fillA_ok (c := st.cx P E fc bl sv w) (place := (places.toArray[·]?)) ps' qs.toList _ cs zv.cells.toList hf hzr (by rw [hl, hml]) (fun j p q h1 h2 => by
                have hj : j < ps.length := by have := (List.getElem?_eq_some_iff.1 h1).1; omega
                obtain ⟨hq1, hq2⟩ := hp j ps[j] q (List.getElem?_eq_getElem hj) h2
                have h3 := hmm j ps[j] p (List.getElem?_eq_getElem hj) h1
                obtain ⟨q0, hq0, rfl⟩ := Option.map_eq_some_iff.1 h3
                refine ⟨?_, hq2⟩
                rw [hq1]; simpa using hq0)
              have hb : P.built t qs.toList = some us := by
                unfold Program.built
                simp only [hit, hu, hzv, hpl]
                simpa using hus
              refine ⟨_, run_build w t qs us hb, Out.pure hR.m ?_⟩
              have := Rep.agg (c := st.cx P E fc bl sv w) cs us.toList hru.1 hru.2
              simpa using this
            · cases hq
          · cases hq
        · rename_i n el hu
          split at hq
          · rename_i ie hie
            obtain ⟨r, hr, rfl⟩ := ofO_inv hq
            obtain ⟨cs, hf, rfl⟩ := Option.map_eq_some_iff.1 hr
            obtain ⟨us, hus, hru⟩ := fillA_ok (c := st.cx P E fc bl sv w) (place := fun i => some (i * ie.size, ie.size)) _ qs.toList _ cs zv.cells.toList hf hzr (by rw [hl]; simp) (fun j p q h1 h2 => by
              simp only [List.getElem?_map, Option.map_eq_some_iff] at h1
              obtain ⟨p0, h1, rfl⟩ := h1
              obtain ⟨hq1, hq2⟩ := hp j p0 q h1 h2
              exact ⟨by rw [hq1], hq2⟩)
            have hb : P.built t qs.toList = some us := by
              unfold Program.built
              simp only [hit, hu, hzv, hie]
              simpa using hus
            refine ⟨_, run_build w t qs us hb, Out.pure hR.m ?_⟩
            have := Rep.agg (c := st.cx P E fc bl sv w) cs us.toList hru.1 hru.2
            simpa using this
          · cases hq
        · cases hq
      · cases hz0
    · cases hq
  · cases hq
end
end Go.Proofs.Ytemdppcnhlnicaa.Ev
