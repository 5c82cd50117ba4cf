/- Stores, addresses, numbers. -/
import Derived.Test.YtemdppcnhlnicaaEvE
set_option linter.unusedVariables false
set_option linter.unusedSimpArgs false
namespace Go.Proofs.Ytemdppcnhlnicaa.Ev
open Go Go.RowKit
variable {G : Nat → Type}

/-- The elements' laws. -/
structure EnvOk (P : Program) (E : Env G) : Prop where
  decX : ∀ e cs x, E.decX e cs = some x → E.enc e x = cs
  dec : ∀ e cs x, E.dec e cs = some x → ∀ (c : Cx G) vs, Reps c cs vs → Reps c (E.enc e x) vs
  len : ∀ e x n, sizeOf? P e = some n → (E.enc e x).length = n
  one : ∀ e x, (E.enc e x).all AV.one = true
  shut : ∀ e x, (E.enc e x).all (AV.shut 4) = true
  plain : ∀ e x, E.plain e = true → (E.enc e x).all (AV.noRO 4) = true
  zero : ∀ e x i z, E.zero e = some x → P.info? e = some i → i.zero = some z → ∀ c : Cx G, Reps c (E.enc e x) z.cells.toList

section
variable {P : Program} {E : Env G} {C : Oracle G} {fc : FC} {bl : Nat → Nat} {sv : Nat → Value} {st : St G} {a : Act} {w : World}

theorem list_store {β : Type} (L u : List β) (p off n sz N : Nat) (hu : u.length = n) (h1 : off + n ≤ sz) (h2 : p + sz ≤ N) (h3 : N ≤ L.length) :
    (L.take (p + off) ++ u ++ L.drop (p + off + n)).take N = (L.take N).take p ++ ((((L.take N).drop p).take sz).take off ++ u ++ (((L.take N).drop p).take sz).drop (off + n)) ++ (L.take N).drop (p + sz) := by
  have a1 : ((L.take N).take p).length = p := by simp; omega
  have a2 : ((((L.take N).drop p).take sz).take off).length = off := by simp; omega
  have a3 : ((((L.take N).drop p).take sz).drop (off + n)).length = sz - (off + n) := by simp; omega
  have a4 : (L.take (p + off)).length = p + off := by simp; omega
  apply List.ext_getElem?
  intro j
  by_cases c1 : j < p
  · rw [List.getElem?_take, if_pos (by omega), List.append_assoc, List.append_assoc, List.getElem?_append_left (by omega), List.getElem?_append_left (by omega)]
    simp only [List.getElem?_take]
    rw [if_pos (by omega), if_pos c1, if_pos (by omega)]
  · by_cases c2 : j < p + off
    · rw [List.getElem?_take, if_pos (by omega), List.append_assoc, List.getElem?_append_left (by omega)]
      rw [List.append_assoc, List.getElem?_append_right (by omega), a1, List.append_assoc, List.append_assoc, List.getElem?_append_left (by omega)]
      simp only [List.getElem?_take, List.getElem?_drop]
      rw [if_pos (by omega), if_pos (by omega), if_pos (by omega), if_pos (by omega)]
      congr 1; omega
    · by_cases c3 : j < p + off + n
      · rw [List.getElem?_take, if_pos (by omega), List.append_assoc, List.getElem?_append_right (by omega), a4, List.getElem?_append_left (by omega)]
        rw [List.append_assoc, List.getElem?_append_right (by omega), a1, List.append_assoc, List.append_assoc, List.getElem?_append_right (by omega), a2, List.getElem?_append_left (by omega)]
        congr 1; omega
      · by_cases c4 : j < p + sz
        · rw [List.getElem?_take, if_pos (by omega), List.append_assoc, List.getElem?_append_right (by omega), a4, List.getElem?_append_right (by omega), hu]
          rw [List.append_assoc, List.getElem?_append_right (by omega), a1, List.append_assoc, List.append_assoc, List.getElem?_append_right (by omega), a2, List.getElem?_append_right (by omega), hu, List.getElem?_append_left (by omega)]
          simp only [List.getElem?_take, List.getElem?_drop]
          rw [if_pos (by omega), if_pos (by omega)]
          congr 1; omega
        · conv => rhs; rw [List.append_assoc ((L.take N).take p), List.getElem?_append_right (by omega), a1, List.append_assoc, List.append_assoc, List.getElem?_append_right (by omega), a2, List.getElem?_append_right (by omega), hu, List.getElem?_append_right (by omega), a3]
          rw [List.append_assoc, List.getElem?_take]
          simp only [List.getElem?_take, List.getElem?_drop]
          by_cases c5 : j < N
          · rw [if_pos c5, if_pos (by omega), List.getElem?_append_right (by omega), a4, List.getElem?_append_right (by omega), hu]
            simp only [List.getElem?_drop]
            congr 1; omega
          · rw [if_neg c5, if_neg (by omega)]

theorem storeVar_run {t g o n : Nat} {u : TypeId} {cur : Array Value} {v : Value} (hg : w.heap[g]? = some (.cells cur u (0, 0))) (hn : sizeOf? P t = some n) (hl : v.cells.toList.length = n) (ho : o + n ≤ cur.size) (h1 : ∀ x ∈ v.cells.toList, x.oneCell' = true) :
    (storeVar t ⟨g, o, none⟩ v).run P w = .ok () (w.setRow g (cur.toList.take o ++ v.cells.toList ++ cur.toList.drop (o + n)).toArray) := by
  have hs := run_storeCells_at P g o u v.cells.toList 0 cur w hg (by rw [hl]; simpa using ho) h1
  rw [Nat.add_zero, hl] at hs
  have hl' : v.cells.size = n := by simpa using hl
  simp only [storeVar, Sem.run_bind, run_sizeOf? hn, Result.andThen_ok, hl', ne_eq, not_true_eq_false, if_false, Sem.run_pure, hs]

theorem setInts_get (k : IntKind) (i : Nat) (v : Int) : ∀ (xs : List Int) (j m : Nat), (setInts (G := G) k i v j xs)[m]? = (xs[m]?).map fun x => .int k (if i = j + m then v else x) := by
  intro xs
  induction xs with
  | nil => intro j m; rfl
  | cons x xs ih =>
    intro j m
    cases m with
    | zero => rfl
    | succ m => simp only [setInts, List.getElem?_cons_succ, ih]; congr 1; funext y; rw [show j + 1 + m = j + (m + 1) by omega]
theorem setInts_eq {k : IntKind} {cs : List (AV G)} {off len i : Nat} {xs : List Int} {v : Int} (h : intsOf k ((cs.drop off).take len) = some xs) (hle : off + len ≤ cs.length) (hi : i < len) :
    cs.take off ++ (setInts k i v 0 xs ++ cs.drop (off + len)) = splice cs (off + i) [.int k v] := by
  obtain ⟨h1, h2⟩ := intsOf_get h
  have hl : xs.length = len := by rw [h1]; simp; omega
  have hsl : (setInts (G := G) k i v 0 xs).length = len := by
    rw [← hl]
    have : ∀ (ys : List Int) (j : Nat), (setInts (G := G) k i v j ys).length = ys.length := by
      intro ys
      induction ys with
      | nil => intro j; rfl
      | cons y ys ih => intro j; simp [setInts, ih]
    exact this xs 0
  unfold splice
  apply List.ext_getElem?
  intro m
  have e1 : (cs.take off).length = off := by simp; omega
  have e2 : (cs.take (off + i)).length = off + i := by simp; omega
  simp only [List.length_cons, List.length_nil]
  by_cases c1 : m < off
  · rw [List.getElem?_append_left (by omega), List.getElem?_append_left (by simp; omega), List.getElem?_append_left (by omega), List.getElem?_take, List.getElem?_take, if_pos c1, if_pos (by omega)]
  · rw [List.getElem?_append_right (by omega), e1]
    by_cases c2 : m < off + len
    · rw [List.getElem?_append_left (by omega), setInts_get, Nat.zero_add]
      have hx := h2 (m - off) (by omega)
      rw [List.getElem?_take, if_pos (by omega), List.getElem?_drop, show off + (m - off) = m by omega] at hx
      have hxm : xs[m - off]? = some (xs.getD (m - off) 0) := by simp [List.getD, List.getElem?_eq_getElem (show m - off < xs.length by omega)]
      rw [hxm]
      by_cases c3 : i = m - off
      · rw [List.getElem?_append_left (by simp; omega), List.getElem?_append_right (by omega), e2]
        simp [c3, show m - (off + (m - off)) = 0 by omega]
      · by_cases c4 : m < off + i
        · rw [List.getElem?_append_left (by simp; omega), List.getElem?_append_left (by omega), List.getElem?_take, if_pos c4, hx]
          simp [c3]
        · rw [List.getElem?_append_right (by simp; omega), List.getElem?_drop]
          simp only [List.length_append, e2, List.length_cons, List.length_nil]
          rw [show off + i + (0 + 1) + (m - (off + i + (0 + 1))) = m by omega, hx]
          simp [c3]
    · rw [List.getElem?_append_right (by omega), List.getElem?_append_right (by simp; omega), List.getElem?_drop, List.getElem?_drop, hsl]
      simp only [List.length_append, e2, List.length_cons, List.length_nil]
      rw [show off + len + (m - off - len) = m by omega, show off + i + (0 + 1) + (m - (off + i + (0 + 1))) = m by omega]
/-- A store into an element of a row of the call's own. -/
theorem store_elem (hE : EnvOk P E) (hR : Rel P E fc bl sv st a w) {t id i sz off n e0 : Nat} {xs : List (G e0)} {x x' : G e0} {y : AV G} {u : Value} (hy : Rep (st.cx P E fc bl sv w) y u) (hb : st.blk id = some (.row e0 xs)) (hn : sizeOf? P t = some n) (hsi : sizeIs P e0 sz = true) (hxi : xs[i]? = some x)
    (h1 : Nat.beq y.cells.length n = true) (h2 : Nat.ble (off + n) (E.enc e0 x).length = true) (h3 : y.cells.all AV.one = true) (h4 : E.dec e0 (splice (E.enc e0 x) off y.cells) = some x') {g nn cap : Nat} (hsv' : sv id = .slice (some ⟨g, 0, none⟩) nn cap) :
    ∃ w', (Instr.storeAt t (.pointer (some ⟨g, i * sz + off, none⟩)) u).run P w = .ok () w' ∧ Out P E fc bl sv st w ⟨.any, [(id, .row e0 (xs.set i x'))]⟩ undef w' := by
  obtain ⟨sz', vs, g', cap', cur, hsz, hv, hh, r1, r3, r4, hr, hlx⟩ := row_at hR.m hb hxi
  rw [hsv'] at hv
  simp only [Value.slice.injEq, Option.some.injEq, Addr.mk.injEq] at hv
  obtain ⟨⟨rfl, _⟩, hnn, rfl⟩ := hv
  have hszz := sizeIs_eq hsi hsz
  subst hszz
  have hi : i < xs.length := (List.getElem?_eq_some_iff.1 hxi).1
  have hxl := hlx x (List.mem_of_getElem? hxi)
  have hyc := hy.cells h3
  have hyl : y.cells.length = n := Nat.eq_of_beq_eq_true h1
  have hl : u.cells.toList.length = n := by rw [hyc.1]; exact hyl
  have hle : off + n ≤ sz' := by rw [← hxl]; exact Nat.le_of_ble_eq_true h2
  have hbig : i * sz' + sz' ≤ xs.length * sz' := by have := Nat.mul_le_mul_right sz' hi; rw [Nat.succ_mul] at this; exact this
  have hcap : xs.length * sz' ≤ cap * sz' := Nat.mul_le_mul_right _ r1
  have hrun := storeVar_run (P := P) (o := i * sz' + off) (v := u) hh hn hl (by rw [r3]; omega) (hyc.one h3)
  refine ⟨w.setRow g (cur.toList.take (i * sz' + off) ++ u.cells.toList ++ cur.toList.drop (i * sz' + off + n)).toArray, ?_, ?_⟩
  · simp only [Instr.storeAt, Instr.sureAddr, Sem.run_bind, Sem.run_pure, Result.andThen_ok]; exact hrun
  have hx'l : (E.enc e0 x').length = sz' := hE.len e0 x' sz' hsz
  have helt := flat_at (E.enc e0) sz' xs hlx i x hxi
  have hvx : Reps (st.cx P E fc bl sv w) (E.enc e0 x) ((vs.drop (i * sz')).take sz') := by
    have := (hr.drop (i * sz')).take sz'
    have h5 : ((xs.flatMap (E.enc e0)).drop (i * sz')).take sz' = E.enc e0 x := helt
    exact h5 ▸ this
  have hspl : Reps (st.cx P E fc bl sv w) (splice (E.enc e0 x) off y.cells) (((vs.drop (i * sz')).take sz').take off ++ u.cells.toList ++ ((vs.drop (i * sz')).take sz').drop (off + n)) := by
    unfold splice
    rw [hyl]
    exact ((hvx.take off).append hyc).append (hvx.drop (off + n))
  have hnew := hE.dec e0 _ x' h4 _ _ hspl
  have hset := flat_set (E.enc e0) sz' xs hlx i x' hi hx'l
  have hvl : vs.length = xs.length * sz' := by rw [hr.1]; exact flat_len _ _ _ hlx
  have hfull : Reps (st.cx P E fc bl sv w) ((xs.set i x').flatMap (E.enc e0)) (vs.take (i * sz') ++ (((vs.drop (i * sz')).take sz').take off ++ u.cells.toList ++ ((vs.drop (i * sz')).take sz').drop (off + n)) ++ vs.drop (i * sz' + sz')) := by
    rw [hset]
    exact ((hr.take (i * sz')).append hnew).append (hr.drop (i * sz' + sz'))
  refine out_rowset hR.m hb hsv' (by simp) hsz hh ?_ ?_ hfull ?_ (.any _)
  · simp only [List.size_toArray, List.length_append, List.length_take, List.length_drop, Array.length_toList, hl, r3]; omega
  · -- the row's first cells
    rw [← r4]
    have hcl : cur.toList.length = cap * sz' := by simp [r3]
    exact list_store cur.toList u.cells.toList (i * sz') off n sz' (xs.length * sz') hl hle hbig (by rw [hcl]; exact hcap)
  · intro z hz
    exact hE.len e0 z sz' hsz
theorem store_ok (hE : EnvOk P E) (hR : Rel P E fc bl sv st a w) {t : Nat} {x y : AV G} {v u : Value} (hx : Rep (st.cx P E fc bl sv w) x v) (hy : Rep (st.cx P E fc bl sv w) y u) {e : Eff G} {l : List Nat} (hq : (storeQ P E t x y).trace st.blk = some (e, l)) :
    ∃ w', (Instr.storeAt t v u).run P w = .ok () w' ∧ Out P E fc bl sv st w e undef w' := by
  unfold storeQ at hq
  split at hq
  · rename_i id off
    obtain rfl := hx.ptr_inv
    simp only [Q.trace, Option.map_eq_some_iff, Prod.mk.injEq] at hq
    obtain ⟨⟨e', l'⟩, hq, rfl, _⟩ := hq
    split at hq
    · rename_i u' cs n hb hn
      split at hq
      · rename_i h1 h2 h3
        simp only [Q.trace, Option.some.injEq, Prod.mk.injEq] at hq
        obtain ⟨rfl, _⟩ := hq
        obtain ⟨vs, hv, hr⟩ := hR.m.blks id _ hb
        have hyc := hy.cells h3
        have hl : u.cells.toList.length = n := by rw [hyc.1]; exact Nat.eq_of_beq_eq_true h1
        have hle : off + n ≤ cs.length := Nat.le_of_ble_eq_true h2
        have hrun := storeVar_run (P := P) (w := w) (o := off) (v := u) hv hn hl (by simp [hr.1]; exact hle) (hyc.one h3)
        refine ⟨w.setRow (bl id) (vs.take off ++ u.cells.toList ++ vs.drop (off + n)).toArray, ?_, ?_⟩
        · simp only [Instr.storeAt, Instr.sureAddr, Sem.run_bind, Sem.run_pure, Result.andThen_ok]; exact hrun
        have hrr : Reps (st.cx P E fc bl sv w) (splice cs off y.cells) (vs.take off ++ u.cells.toList ++ vs.drop (off + n)) := by
          have h4 : y.cells.length = n := Nat.eq_of_beq_eq_true h1
          unfold splice
          rw [h4]
          exact ((hr.take off).append hyc).append (hr.drop (off + n))
        exact out_set hR.m hb hrr (.any _)
      · cases hq
    · cases hq
  · rename_i id i sz off
    simp only [Q.trace, Option.map_eq_some_iff, Prod.mk.injEq] at hq
    obtain ⟨⟨e', l'⟩, hq, rfl, _⟩ := hq
    split at hq
    · rename_i e0 xs n hb hn
      split at hq
      · rename_i hsi
        simp only [Q.trace, Option.bind_eq_some_iff] at hq
        obtain ⟨x, hxi, hq⟩ := hq
        split at hq
        · rename_i x' h1 h2 h3 h4
          simp only [Q.trace, Option.some.injEq, Prod.mk.injEq] at hq
          obtain ⟨rfl, _⟩ := hq
          cases hx with
          | optr id i sz off g nn cap hlv hsv =>
            exact store_elem hE hR hy hb hn hsi hxi h1 h2 h3 h4 hsv
        · cases hq
      · cases hq
    · cases hq
  · rename_i id i sz off len j
    simp only [Q.trace, Option.map_eq_some_iff, Prod.mk.injEq] at hq
    obtain ⟨⟨e', l'⟩, hq, rfl, _⟩ := hq
    split at hq
    · rename_i e0 xs k k' n hb hk hs
      split at hq
      · rename_i hsi hkk
        simp only [Q.trace, Option.bind_eq_some_iff] at hq
        obtain ⟨x, hxi, hq⟩ := hq
        split at hq
        · rename_i ns hx1 hle
          split at hq
          · rename_i x' h4
            simp only [Q.trace, Option.some.injEq, Prod.mk.injEq] at hq
            obtain ⟨rfl, _⟩ := hq
            obtain rfl := of_decide_eq_true hkk
            obtain ⟨g, nn, cap, hlv, rfl, hj, hsv⟩ := hx.oarr_inv
            have hle' := Nat.le_of_ble_eq_true hle
            rw [setInts_eq hx1 hle' hj] at h4
            exact store_elem hE hR (y := .int k' n) hy hb hs hsi hxi rfl (Nat.ble_eq_true_of_le (by omega)) rfl h4 hsv
          · cases hq
        · cases hq
      · cases hq
    · cases hq
  · rename_i id off len i
    simp only [Q.trace, Option.map_eq_some_iff, Prod.mk.injEq] at hq
    obtain ⟨⟨e', l'⟩, hq, rfl, _⟩ := hq
    split at hq
    · rename_i u' cs k k' n hb hk hs
      split at hq
      · rename_i xs hkk hx1 hle
        simp only [Q.trace, Option.some.injEq, Prod.mk.injEq] at hq
        obtain ⟨rfl, _⟩ := hq
        obtain rfl := of_decide_eq_true hkk
        obtain ⟨rfl, hi⟩ := hx.aptr_inv
        have hle' := Nat.le_of_ble_eq_true hle
        obtain ⟨vs, hv, hr⟩ := hR.m.blks id _ hb
        obtain rfl := hy.int_inv
        have hrun := storeVar_run (P := P) (w := w) (o := off + i) (v := .int k' n) hv hs rfl (by simp [hr.1]; omega) (by simp [Value.cells, Value.oneCell'])
        refine ⟨w.setRow (bl id) (vs.take (off + i) ++ (Value.int k' n).cells.toList ++ vs.drop (off + i + 1)).toArray, ?_, ?_⟩
        · simp only [Instr.storeAt, Instr.sureAddr, Sem.run_bind, Sem.run_pure, Result.andThen_ok]; exact hrun
        have hrr : Reps (st.cx P E fc bl sv w) (splice cs (off + i) [.int k' n]) (vs.take (off + i) ++ (Value.int k' n).cells.toList ++ vs.drop (off + i + 1)) := by
          unfold splice
          exact ((hr.take (off + i)).append (Reps.cons (.int k' n) (Reps.nil _))).append (hr.drop (off + i + 1))
        rw [setInts_eq hx1 hle' hi]
        exact out_set hR.m hb hrr (.any _)
      · cases hq
    · cases hq
  · cases hq
end
end Go.Proofs.Ytemdppcnhlnicaa.Ev
