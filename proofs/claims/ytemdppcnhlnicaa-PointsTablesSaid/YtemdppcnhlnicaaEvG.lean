/- Addresses, arithmetic, new rows. -/
import Derived.Test.YtemdppcnhlnicaaEvF
set_option linter.unusedVariables false
set_option linter.unusedSimpArgs false
namespace Go.Proofs.Ytemdppcnhlnicaa.Ev
open Go Go.RowKit
variable {G : Nat → Type}
section
variable {P : Program} {E : Env G} {C : Oracle G} {fc : FC} {bl : Nat → Nat} {sv : Nat → Value} {st : St G} {a : Act} {w : World}

theorem pureE_inv {r : AV G} {h : Nat → Option (Blk G)} {e : Eff G} {l : List Nat} (hh : (pureE r).trace h = some (e, l)) : e = ⟨r, []⟩ := by
  simp only [pureE, Q.trace, Option.some.injEq, Prod.mk.injEq] at hh; exact hh.1.symm
theorem opt_inv {α β : Type} {o : Option β} {k : β → Q G α} {h : Nat → Option (Blk G)} {e : α × List Nat} (hh : (Q.opt β o k).trace h = some e) : ∃ x, o = some x ∧ (k x).trace h = some e := by
  simpa only [Q.trace, Option.bind_eq_some_iff] using hh
theorem ask_inv {α : Type} {id : Nat} {k : Option (Blk G) → Q G α} {h : Nat → Option (Blk G)} {e : α} {l : List Nat} (hh : (Q.ask id k).trace h = some (e, l)) : ∃ l', (k (h id)).trace h = some (e, l') ∧ l = l' ++ [id] := by
  simp only [Q.trace, Option.map_eq_some_iff, Prod.mk.injEq] at hh
  obtain ⟨⟨e', l'⟩, h1, rfl, rfl⟩ := hh
  exact ⟨l', h1, rfl⟩

theorem bind_inv' {α β : Type} {q : Q G α} {f : α → Q G β} {h : Nat → Option (Blk G)} {r : β} {l : List Nat} (e : (q.bind f).trace h = some (r, l)) :
    ∃ a l1 l2, q.trace h = some (a, l1) ∧ (f a).trace h = some (r, l2) := by
  rw [Q.trace_bind] at e
  simp only [Option.bind_eq_some_iff, Option.map_eq_some_iff, Prod.mk.injEq] at e
  obtain ⟨⟨a, l1⟩, h1, ⟨r', l2⟩, h2, rfl, _⟩ := e
  exact ⟨a, l1, l2, h1, h2⟩
theorem ask_inv' {α : Type} {id : Nat} {k : Option (Blk G) → Q G α} {h : Nat → Option (Blk G)} {e : α} {l : List Nat} (hh : (Q.ask id k).trace h = some (e, l)) : ∃ l', (k (h id)).trace h = some (e, l') ∧ l = l' ++ [id] := by
  simp only [Q.trace, Option.map_eq_some_iff, Prod.mk.injEq] at hh
  obtain ⟨⟨e', l'⟩, h1, rfl, h2⟩ := hh
  exact ⟨l', h1, h2.symm⟩
theorem field_ok (hR : Rel P E fc bl sv st a w) {s f : Nat} {x : AV G} {v : Value} (hx : Rep (st.cx P E fc bl sv w) x v) {e : Eff G} {l : List Nat} (hq : (fieldQ P s x f).trace st.blk = some (e, l)) :
    ∃ r, (Instr.fieldAt s v f).run P w = .ok r w ∧ Out P E fc bl sv st w e r w := by
  unfold fieldQ at hq
  split at hq
  · rename_i fs hu
    split at hq
    · rename_i fd hfd
      split at hq
      · rename_i n hn
        have hrun : ∀ b o, (Instr.fieldAt s (.pointer (some ⟨b, o, none⟩)) f).run P w = .ok (.pointer (some ⟨b, o + fd.offset, none⟩)) w := by
          intro b o
          simp only [Instr.fieldAt, Sem.run_bind, run_underlying hu, Result.andThen_ok, hfd, Instr.sureAddr, fieldPlace, run_sizeOf? hn, Sem.run_pure, Nat.add_one_ne_zero, if_false, add_plain]
        split at hq
        · rename_i id off
          obtain rfl := hx.ptr_inv
          obtain rfl := pureE_inv hq
          refine ⟨_, hrun _ _, Out.pure hR.m ?_⟩
          cases hx with
          | ptr _ _ h => exact .ptr id (off + fd.offset) h
        · rename_i cs
          obtain rfl := pureE_inv hq
          cases hx with
          | rop b off cs vs hb ho hc hr =>
            refine ⟨_, hrun _ _, Out.pure hR.m (.rop b (off + fd.offset) (cs.drop fd.offset) (fun j => vs (fd.offset + j)) hb ho (fun j hj => ?_) (fun j hj => ?_))⟩
            · rw [Nat.add_assoc]; exact hc _ (by simp at hj; omega)
            · have := hr (fd.offset + j) (by simp at hj; omega)
              simpa using this
        · rename_i id i sz off
          obtain rfl := pureE_inv hq
          cases hx with
          | optr id i sz off g n cap h hs =>
            refine ⟨_, hrun _ _, Out.pure hR.m ?_⟩
            rw [Nat.add_assoc]
            exact .optr id i sz (off + fd.offset) g n cap h hs
        · cases hq
      · cases hq
    · cases hq
  · cases hq

theorem fieldV_ok (hR : Rel P E fc bl sv st a w) {s f : Nat} {x : AV G} {v : Value} (hx : Rep (st.cx P E fc bl sv w) x v) {e : Eff G} {l : List Nat} (hq : (fieldVQ P s x f).trace st.blk = some (e, l)) :
    ∃ r, (Instr.field s v f).run P w = .ok r w ∧ Out P E fc bl sv st w e r w := by
  unfold fieldVQ at hq
  split at hq
  · rename_i fs cs hu
    split at hq
    · rename_i fd hfd
      obtain ⟨r, hp, rfl⟩ := ofO_inv hq
      obtain ⟨vs, rfl, hr⟩ := hx.agg_inv
      obtain ⟨r', hrun, hrep⟩ := part_ok (P := P) (w := w) hp hr
      refine ⟨r', ?_, Out.pure hR.m hrep⟩
      simp only [Instr.field, Sem.run_bind, run_underlying hu, Result.andThen_ok, hfd, asAgg, Sem.run_pure, hrun]
    · cases hq
  · cases hq

theorem idx_inv {i : Int} {n k : Nat} (h : idx i n = some k) : 0 ≤ i ∧ i < n ∧ k = i.toNat := by
  unfold idx at h
  split at h
  · rename_i hd
    have := of_decide_eq_true hd
    exact ⟨this.1, this.2, (Option.some.inj h).symm⟩
  · cases h
theorem rdx_inv {α : Type} {xs : List α} {i : Int} {x : α} (h : rdx xs i = some x) : 0 ≤ i ∧ i < xs.length ∧ xs[i.toNat]? = some x := by
  unfold rdx at h
  split at h
  · rename_i hd
    have h0 := of_decide_eq_true hd
    have := (List.getElem?_eq_some_iff.1 h).1
    exact ⟨h0, by omega, h⟩
  · cases h
theorem elem_of {t el : Nat} (hu : P.underlying t = some (.slice el)) : P.underlying t = some (.slice (P.elem t)) ∧ P.elem t = el := by
  have : P.elem t = el := by simp [Program.elem, hu]
  exact ⟨by rw [this]; exact hu, this⟩

theorem indexAddr_ok (hR : Rel P E fc bl sv st a w) {t : Nat} {x i : AV G} {v u : Value} (hx : Rep (st.cx P E fc bl sv w) x v) (hi : Rep (st.cx P E fc bl sv w) i u) {e : Eff G} {l : List Nat} (hq : (indexAddrQ P E t x i).trace st.blk = some (e, l)) :
    ∃ r, (Instr.indexAt t v u).run P w = .ok r w ∧ Out P E fc bl sv st w e r w := by
  unfold indexAddrQ at hq
  split at hq
  · rename_i el k n hu
    obtain rfl := hi.int_inv
    obtain ⟨hu', hel⟩ := elem_of hu
    split at hq
    · rename_i e0 xs
      split at hq
      · rename_i hbeq
        obtain rfl := Nat.eq_of_beq_eq_true hbeq
        obtain ⟨x, hrd, hq⟩ := opt_inv hq
        obtain rfl := pureE_inv hq
        obtain ⟨h0, hlt, hx'⟩ := rdx_inv hrd
        cases hx with
        | ros0 => simp at hx'
        | ros e0 xs b off cap sz vs hsz hb ho hc hl hr hcap =>
          have hj : n.toNat < xs.length := by omega
          have hxe : xs[n.toNat] = x := by simpa [List.getElem?_eq_getElem hj] using hx'
          subst hxe
          refine ⟨_, ?_, Out.pure hR.m (.rop b (off + n.toNat * sz) _ (vs n.toNat) hb ho (fun j hj' => hc _ hj j ?_) (fun j hj' => ?_))⟩
          · rw [run_indexAt_slice (h := hu')]
            rw [if_pos ⟨h0, by omega⟩, hel]
            have : (Go.sizeOf e0).run P w = .ok sz w := run_sizeOf? hsz
            simp [this, add_plain]
          · have h2 : (E.enc e0 xs[n.toNat]).length = sz := hl n.toNat hj
            omega
          · exact hr n.toNat hj j hj'
      · cases hq
    · rename_i id
      split at hq
      · rename_i sz hsz
        have hq1 := ask_inv hq
        clear hq
        obtain ⟨l', hq, -⟩ := hq1
        split at hq
        · rename_i e0 xs hb
          split at hq
          · rename_i hbeq
            obtain rfl := Nat.eq_of_beq_eq_true hbeq
            obtain ⟨k', hid, hq⟩ := opt_inv hq
            obtain rfl := pureE_inv hq
            obtain ⟨h0, hlt, rfl⟩ := idx_inv hid
            have hj : n.toNat < xs.length := by omega
            obtain ⟨sz', vs, g, cap, cur, hsz', hv, _⟩ := row_at hR.m hb (List.getElem?_eq_getElem hj)
            have hszz : sz' = sz := by rw [hsz] at hsz'; exact (Option.some.inj hsz').symm
            subst hszz
            cases hx with
            | osl id A nn cap' hlv hs =>
              have hs' : sv id = .slice A nn cap' := hs
              rw [hv] at hs'
              simp only [Value.slice.injEq] at hs'
              obtain ⟨rfl, rfl, rfl⟩ := hs'
              refine ⟨_, ?_, Out.pure hR.m (.optr id n.toNat sz' 0 g xs.length cap hlv hv)⟩
              rw [run_indexAt_slice (h := hu')]
              rw [if_pos ⟨h0, hlt⟩, hel]
              have : (Go.sizeOf e0).run P w = .ok sz' w := run_sizeOf? hsz
              simp [this, add_plain]
          · cases hq
        · cases hq
      · cases hq
    · rename_i id sz lo m
      split at hq
      · rename_i hsi
        obtain ⟨k', hid, hq⟩ := opt_inv hq
        obtain rfl := pureE_inv hq
        obtain ⟨h0, hlt, rfl⟩ := idx_inv hid
        have hsz : sizeOf? P el = some sz := by
          unfold sizeIs at hsi
          split at hsi
          · rename_i n1 h1; rw [h1, Nat.eq_of_beq_eq_true hsi]
          · cases hsi
        have : (Go.sizeOf el).run P w = .ok sz w := run_sizeOf? hsz
        cases hx with
        | sub0 => omega
        | sub _ _ _ _ g N cap cap' hlv hs hn hc =>
          refine ⟨.pointer (some ⟨g, (lo + n.toNat) * sz + 0, none⟩), ?_, Out.pure hR.m (.optr id (lo + n.toNat) sz 0 g N cap hlv hs)⟩
          rw [run_indexAt_slice (h := hu')]
          rw [if_pos ⟨h0, hlt⟩, hel]
          simp only [this, Result.andThen_ok, add_plain, Nat.add_zero, Nat.add_mul]
      · cases hq
    · cases hq
  · rename_i len el k n hu
    obtain rfl := hi.int_inv
    split at hq
    · rename_i sz hsz
      split at hq
      · rename_i id off
        obtain ⟨k', hid, hq⟩ := opt_inv hq
        obtain ⟨h0, hlt, rfl⟩ := idx_inv hid
        obtain rfl := hx.ptr_inv
        have he : P.elem t = el := by simp [Program.elem, hu]
        have ha : P.arrayLen t = len := by simp [Program.arrayLen, hu]
        have : (Go.sizeOf el).run P w = .ok (sz + 1) w := run_sizeOf? hsz
        cases hx with
        | ptr _ _ h =>
          split at hq
          · obtain rfl := pureE_inv hq
            refine ⟨_, ?_, Out.pure hR.m (.aptr id off len n.toNat h (by omega))⟩
            rw [run_indexAt_array (h := by rw [he, ha]; exact hu), ha, if_pos ⟨h0, hlt⟩, he]
            simp only [this, Result.andThen_ok, add_plain, Nat.zero_add, Nat.mul_one]
          · rename_i sz _
            obtain rfl := pureE_inv hq
            refine ⟨_, ?_, Out.pure hR.m (.ptr id (off + n.toNat * (_ + 1)) h)⟩
            rw [run_indexAt_array (h := by rw [he, ha]; exact hu), ha, if_pos ⟨h0, hlt⟩, he]
            simp only [this, Result.andThen_ok, add_plain]
      · rename_i id i0 szr off
        obtain ⟨k', hid, hq⟩ := opt_inv hq
        obtain ⟨h0, hlt, rfl⟩ := idx_inv hid
        have he : P.elem t = el := by simp [Program.elem, hu]
        have ha : P.arrayLen t = len := by simp [Program.arrayLen, hu]
        have : (Go.sizeOf el).run P w = .ok (sz + 1) w := run_sizeOf? hsz
        cases hx with
        | optr _ _ _ _ g nn cap hlv hs =>
          split at hq
          · obtain rfl := pureE_inv hq
            refine ⟨_, ?_, Out.pure hR.m (.oarr id i0 szr off len n.toNat g nn cap hlv (by omega) hs)⟩
            rw [run_indexAt_array (h := by rw [he, ha]; exact hu), ha, if_pos ⟨h0, hlt⟩, he]
            simp only [this, Result.andThen_ok, add_plain, Nat.zero_add, Nat.mul_one, Nat.add_assoc]
          · rename_i sz _
            obtain rfl := pureE_inv hq
            refine ⟨_, ?_, Out.pure hR.m (.optr id i0 szr (off + n.toNat * (_ + 1)) g nn cap hlv hs)⟩
            rw [run_indexAt_array (h := by rw [he, ha]; exact hu), ha, if_pos ⟨h0, hlt⟩, he]
            simp only [this, Result.andThen_ok, add_plain, Nat.add_assoc]
      · rename_i cs
        obtain ⟨k', hid, hq⟩ := opt_inv hq
        obtain ⟨h0, hlt, rfl⟩ := idx_inv hid
        have he : P.elem t = el := by simp [Program.elem, hu]
        have ha : P.arrayLen t = len := by simp [Program.arrayLen, hu]
        have : (Go.sizeOf el).run P w = .ok (sz + 1) w := run_sizeOf? hsz
        cases hx with
        | rop b off cs vs hb ho hc hr =>
          split at hq
          · rename_i k1 _ _
            split at hq
            · rename_i xs hxs hl
              obtain rfl := pureE_inv hq
              obtain ⟨g1, g2⟩ := intsOf_get hxs
              have hl' := Nat.le_of_ble_eq_true hl
              have hxl : xs.length = len := by rw [g1, List.length_take]; omega
              have hg := g2 n.toNat (by omega)
              rw [List.getElem?_take, if_pos (by omega)] at hg
              have hj : n.toNat < cs.length := by omega
              have hcs : cs[n.toNat] = .int k1 (xs.getD n.toNat 0) := by
                rw [List.getElem?_eq_getElem hj] at hg; exact Option.some.inj hg
              refine ⟨_, ?_, Out.pure hR.m (.rop b (off + n.toNat) _ (fun j => vs (n.toNat + j)) hb ho (fun j hj' => ?_) (fun j hj' => ?_))⟩
              · rw [run_indexAt_array (h := by rw [he, ha]; exact hu), ha, if_pos ⟨h0, hlt⟩, he]
                simp only [this, Result.andThen_ok, add_plain, Nat.zero_add, Nat.mul_one]
              · rw [Nat.add_assoc]; exact hc _ (by simp at hj'; omega)
              · obtain rfl : j = 0 := by simp at hj'; exact hj'
                have h5 := hr n.toNat hj
                rw [hcs] at h5
                exact h5
            · cases hq
          · obtain ⟨m, hm, hq⟩ : ∃ m, (Go.sizeOf el).run P w = .ok (m + 1) w ∧ (pureE (.rop (cs.drop (n.toNat * (m + 1)))) : Q G (Eff G)).trace st.blk = some (e, l) := ⟨_, this, hq⟩
            obtain rfl := pureE_inv hq
            refine ⟨_, ?_, Out.pure hR.m (.rop b (off + n.toNat * (m + 1)) _ (fun j => vs (n.toNat * (m + 1) + j)) hb ho (fun j hj' => ?_) (fun j hj' => ?_))⟩
            · rw [run_indexAt_array (h := by rw [he, ha]; exact hu), ha, if_pos ⟨h0, hlt⟩, he]
              simp only [hm, Result.andThen_ok, add_plain]
            · rw [Nat.add_assoc]; exact hc _ (by simp at hj'; omega)
            · have h5 := hr (n.toNat * (m + 1) + j) (by simp at hj'; omega)
              simpa using h5
      · cases hq
    · cases hq
  · cases hq

theorem indexV_ok (hR : Rel P E fc bl sv st a w) {t : Nat} {x i : AV G} {v u : Value} (hx : Rep (st.cx P E fc bl sv w) x v) (hi : Rep (st.cx P E fc bl sv w) i u) {e : Eff G} {l : List Nat} (hq : (indexVQ P t x i).trace st.blk = some (e, l)) :
    ∃ r, (Instr.index t v u).run P w = .ok r w ∧ Out P E fc bl sv st w e r w := by
  unfold indexVQ at hq
  split at hq
  · rename_i len el cs k n hu
    obtain rfl := hi.int_inv
    split at hq
    · rename_i sz hsz
      obtain ⟨k', hid, hq⟩ := opt_inv hq
      obtain ⟨h0, hlt, rfl⟩ := idx_inv hid
      obtain ⟨r, hp, rfl⟩ : ∃ r, partOf P el cs (n.toNat * sz) = some r ∧ e = ⟨r, []⟩ := by
        split at hq
        · rename_i k1 hk _
          split at hq
          · rename_i xs hxs hl
            obtain rfl := pureE_inv hq
            obtain ⟨h1, h2⟩ := intsOf_get hxs
            have hl' := Nat.eq_of_beq_eq_true hl
            exact ⟨_, by rw [Nat.mul_one]; exact part_int hk hsz (h2 n.toNat (by omega)), rfl⟩
          · cases hq
        · exact ofO_inv hq
      obtain ⟨vs, rfl, hr⟩ := hx.agg_inv
      obtain ⟨r', hrun, hrep⟩ := part_ok (P := P) (w := w) hp hr
      refine ⟨r', ?_, Out.pure hR.m hrep⟩
      simp only [Instr.index, asIntOf, Sem.run_bind, Sem.run_pure, Result.andThen_ok, run_underlying hu, if_pos (And.intro h0 hlt), run_sizeOf? hsz, hrun]
    · cases hq
  · rename_i s kd n hu
    obtain ⟨b, hb, hq⟩ := opt_inv hq
    obtain rfl := hx.str_inv
    obtain rfl := hi.int_inv
    unfold rdb at hb
    split at hb
    · rename_i h0
      have h0' : 0 ≤ n := of_decide_eq_true h0
      obtain rfl := pureE_inv hq
      exact ⟨.int .u8 b.toNat, by simp [Instr.index, asIntOf, run_underlying hu, Sem.run_bind, h0', hb], Out.pure hR.m (.int _ _)⟩
    · cases hb
  · cases hq

theorem chk_inv {b : Bool} {u : Unit} (h : chk b = some u) : b = true := by cases b <;> simp_all [chk]

theorem isBool_inv {t : Nat} (h : isBool P t = true) : P.underlying t = some .bool := by
  unfold isBool at h; split at h <;> simp_all
theorem isPtr_inv {t : Nat} (h : isPtr P t = true) : ∃ e, P.underlying t = some (.pointer e) := by
  unfold isPtr at h; split at h <;> simp_all
theorem isSl_inv {t : Nat} (h : isSl P t = true) : ∃ e, P.underlying t = some (.slice e) := by
  unfold isSl at h; split at h <;> simp_all
theorem equal_of {t : Nat} {x y : Value} {b : Bool} (h : ∀ d, (Op.equalIn (d + 1) t x y).run P w = .ok b w) : (Op.equal t x y).run P w = .ok b w := h 9999
theorem eqNe_ok (m : MRel P E fc bl sv st w) {op : BinOp} {t : Nat} {ox oy : Operand} {v u : Value} {b : Bool} {e : Eff G} {l : List Nat} (hq : (eqNe op b).trace st.blk = some (e, l))
    (hg : (eqGuard op t ox oy v u).run P w = .ok () w) (hb : (binOp .eql t v u).run P w = .ok (.bool b) w) (hn : (binOp .neq t v u).run P w = .ok (.bool (!b)) w) :
    ∃ r, (do eqGuard op t ox oy v u; binOp op t v u : Sem Value).run P w = .ok r w ∧ Out P E fc bl sv st w e r w := by
  unfold eqNe at hq
  split at hq
  · obtain rfl := pureE_inv hq
    exact ⟨_, by simp only [Sem.run_bind, hg, Result.andThen_ok, hb], Out.pure m (.bool _)⟩
  · obtain rfl := pureE_inv hq
    exact ⟨_, by simp only [Sem.run_bind, hg, Result.andThen_ok, hn], Out.pure m (.bool _)⟩
  · cases hq
theorem eqGuard_plain {op : BinOp} {t : Nat} {ox oy : Operand} {v u : Value} (h1 : ∀ cs, v ≠ .agg cs) (h2 : v ≠ .nilIface) : (eqGuard op t ox oy v u).run P w = .ok () w := by
  unfold eqGuard
  cases op <;> simp <;> (cases v <;> simp_all)
theorem ok_of {m : MRel P E fc bl sv st w} {r : AV G} {v : Value} {e : Eff G} {l : List Nat} {s : Sem Value} (hq : (pureE r).trace st.blk = some (e, l)) (hs : s.run P w = .ok v w) (hr : Rep (st.cx P E fc bl sv w) r v) :
    ∃ r, s.run P w = .ok r w ∧ Out P E fc bl sv st w e r w := by
  obtain rfl := pureE_inv hq
  exact ⟨v, hs, Out.pure m hr⟩

/-! ### Values held against each other -/
theorem eqFs_ok {d : Nat} {f : Nat → AV G → AV G → Option Bool} {c : Cx G} (hf : ∀ t x y b v u, f t x y = some b → Rep c x v → Rep c y u → (Op.equalIn d t v u).run P w = .ok b w) {xs ys : List (AV G)} {vs us : List Value} (hx : Reps c xs vs) (hy : Reps c ys us) :
    ∀ (fs : List Field) (b : Bool), eqFs P f xs ys fs = some b → (Op.eqFields d vs.toArray us.toArray fs).run P w = .ok b w := by
  intro fs
  induction fs with
  | nil => intro b h; obtain rfl := Option.some.inj h; simp [Op.eqFields]
  | cons fd r ih =>
    intro b h
    simp only [eqFs] at h
    split at h
    · rename_i p q hn hp hq
      have hn' : fd.name ≠ "_" := of_decide_eq_false hn
      split at h
      · rename_i b1 b2 h1 h2
        obtain rfl := Option.some.inj h
        obtain ⟨v, hv, hrv⟩ := part_ok (P := P) (w := w) hp hx
        obtain ⟨u, hu, hru⟩ := part_ok (P := P) (w := w) hq hy
        have h3 := hf _ _ _ _ _ _ h1 hrv hru
        have h4 := ih _ h2
        simp only [Op.eqFields, if_pos hn', Sem.run_bind, hv, hu, h3, Result.andThen_ok]
        cases b1
        · simp
        · simpa using h4
      · cases h
    · cases h
theorem eqIs_ok {d e sz : Nat} {f : AV G → AV G → Option Bool} {c : Cx G} (hf : ∀ x y b v u, f x y = some b → Rep c x v → Rep c y u → (Op.equalIn d e v u).run P w = .ok b w) {xs ys : List (AV G)} {vs us : List Value} (hx : Reps c xs vs) (hy : Reps c ys us) :
    ∀ (is : List Nat) (b : Bool), eqIs P f e sz xs ys is = some b → (Op.eqItems d e sz vs.toArray us.toArray is).run P w = .ok b w := by
  intro is
  induction is with
  | nil => intro b h; obtain rfl := Option.some.inj h; simp [Op.eqItems]
  | cons i r ih =>
    intro b h
    simp only [eqIs] at h
    split at h
    · rename_i p q hp hq
      split at h
      · rename_i b1 b2 h1 h2
        obtain rfl := Option.some.inj h
        obtain ⟨v, hv, hrv⟩ := part_ok (P := P) (w := w) hp hx
        obtain ⟨u, hu, hru⟩ := part_ok (P := P) (w := w) hq hy
        have h3 := hf _ _ _ _ _ h1 hrv hru
        have h4 := ih _ h2
        simp only [Op.eqItems, Sem.run_bind, hv, hu, h3, Result.andThen_ok]
        cases b1
        · simp
        · simpa using h4
      · cases h
    · cases h
theorem eqA_ok {c : Cx G} : ∀ (d t : Nat) (x y : AV G) (b : Bool) (v u : Value), eqA P d t x y = some b → Rep c x v → Rep c y u → ∀ n, d ≤ n → (Op.equalIn n t v u).run P w = .ok b w := by
  intro d
  induction d with
  | zero => intro t x y b v u h; cases h
  | succ d ih =>
    intro t x y b v u h hx hy n hn
    obtain ⟨n, rfl⟩ : ∃ m, n = m + 1 := ⟨n - 1, by omega⟩
    unfold eqA at h
    split at h
    · rename_i p q hu
      obtain rfl := Option.some.inj h
      obtain rfl := hx.bool_inv
      obtain rfl := hy.bool_inv
      simp [Op.equalIn, run_underlying hu]
    · rename_i k0 k p k' q hu
      split at h
      · rename_i hk
        obtain rfl := of_decide_eq_true hk
        obtain rfl := Option.some.inj h
        obtain rfl := hx.int_inv
        obtain rfl := hy.int_inv
        simp [Op.equalIn, run_underlying hu]
      · cases h
    · rename_i p q hu
      obtain rfl := Option.some.inj h
      obtain rfl := hx.str_inv
      obtain rfl := hy.str_inv
      simp [Op.equalIn, run_underlying hu]
    · rename_i fs xs ys hu
      split at h
      · rename_i hs
        obtain ⟨vs, rfl, hr⟩ := hx.agg_inv
        obtain ⟨us, rfl, hr'⟩ := hy.agg_inv
        have hfs : P.fieldsOf t = fs := by simp [Program.fieldsOf, hu]
        rw [run_equalIn_struct w n t _ _ (by rw [hfs]; exact hu) hs, hfs]
        exact eqFs_ok (fun t x y b v u e h1 h2 => ih t x y b v u e h1 h2 n (by omega)) hr hr' _ _ h
      · cases h
    · rename_i len e xs ys hu
      split at h
      · rename_i sz hsz
        obtain ⟨vs, rfl, hr⟩ := hx.agg_inv
        obtain ⟨us, rfl, hr'⟩ := hy.agg_inv
        obtain ⟨i, hi, hisz⟩ := Option.map_eq_some_iff.1 hsz
        have hc : P.cellsOf e = sz := by simp [Program.cellsOf, hi, hisz]
        rw [run_equalIn_array w n _ _ hu hi, hc]
        exact eqIs_ok (fun x y b v u e' h1 h2 => ih e x y b v u e' h1 h2 n (by omega)) hr hr' _ _ h
      · cases h
    · cases h
theorem someSl_ok (hR : Rel P E fc bl sv st a w) {x : AV G} {v : Value} (hx : Rep (st.cx P E fc bl sv w) x v) {b : Bool} {l : List Nat} (hq : (someSl x).trace st.blk = some (some b, l)) (hb : b = true) : ∃ A n cap, v = .slice (some A) n cap := by
  subst hb
  unfold someSl at hq
  split at hq
  · rename_i e0 xs
    simp only [Q.trace, Option.some.injEq, Prod.mk.injEq, decide_eq_true_eq] at hq
    cases hx with
    | ros0 => exact absurd rfl hq.1
    | ros => exact ⟨_, _, _, rfl⟩
  · rename_i id
    obtain ⟨l', hq, -⟩ := ask_inv' hq
    split at hq
    · rename_i e0 xs hb
      simp only [Q.trace, Option.some.injEq, Prod.mk.injEq, decide_eq_true_eq] at hq
      obtain ⟨sz, vs, hsz, hown, hr, hl⟩ := hR.m.blks id _ hb
      cases hx with
      | osl id A n cap hlv hs =>
        have hown' : w.ownsRow 0 e0 sz (sv id) xs.length vs := hown
        have hs' : sv id = .slice A n cap := hs
        rcases hown'.2 with ⟨h1, h2⟩ | ⟨g, cap', cur, h1, _⟩
        · exact absurd h2 hq.1
        · rw [hs'] at h1; simp only [Value.slice.injEq] at h1; obtain ⟨rfl, rfl, rfl⟩ := h1; exact ⟨_, _, _, rfl⟩
    · simp [Q.trace] at hq
  · rename_i id sz lo n
    simp only [Q.trace, Option.some.injEq, Prod.mk.injEq, decide_eq_true_eq] at hq
    cases hx with
    | sub0 => exact absurd rfl hq.1
    | sub => exact ⟨_, _, _, rfl⟩
  · simp [Q.trace] at hq
theorem bin_ok (hR : Rel P E fc bl sv st a w) {op : BinOp} {t : Nat} {ox oy : Operand} {x y : AV G} {v u : Value} (hx : Rep (st.cx P E fc bl sv w) x v) (hy : Rep (st.cx P E fc bl sv w) y u) {e : Eff G} {l : List Nat} (hq : (binQ P op t x y).trace st.blk = some (e, l)) :
    ∃ r, (do eqGuard op t ox oy v u; binOp op t v u : Sem Value).run P w = .ok r w ∧ Out P E fc bl sv st w e r w := by
  unfold binQ at hq
  split at hq
  · rename_i k x k' y
    obtain rfl := hx.int_inv
    obtain rfl := hy.int_inv
    have hg : (eqGuard op t ox oy (.int k x) (.int k' y)).run P w = .ok () w := eqGuard_plain (by simp) (by simp)
    split at hq
    · obtain ⟨_, hc, hq⟩ := opt_inv hq
      have h0 := of_decide_eq_true (chk_inv hc)
      refine ok_of (m := hR.m) hq ?_ (.int _ _)
      simp only [Sem.run_bind, hg, Result.andThen_ok, binOp, Op.shift, if_neg (show ¬ y < 0 by omega), Sem.run_pure]
    · obtain ⟨_, hc, hq⟩ := opt_inv hq
      have h0 := of_decide_eq_true (chk_inv hc)
      refine ok_of (m := hR.m) hq ?_ (.int _ _)
      simp only [Sem.run_bind, hg, Result.andThen_ok, binOp, Op.shift, if_neg (show ¬ y < 0 by omega), Sem.run_pure]
    · split at hq
      · cases hq
      · rename_i hn1 hn2 hkk
        obtain rfl := of_decide_eq_true hkk
        split at hq
        case _ => exact ok_of (m := hR.m) hq (by simp [hg, binOp, Op.intArith]) (.int _ _)
        case _ => exact ok_of (m := hR.m) hq (by simp [hg, binOp, Op.intArith]) (.int _ _)
        case _ => exact ok_of (m := hR.m) hq (by simp [hg, binOp, Op.intArith]) (.int _ _)
        case _ =>
          obtain ⟨_, hc, hq⟩ := opt_inv hq
          have h0 : y ≠ 0 := by simpa using chk_inv hc
          exact ok_of (m := hR.m) hq (by simp [hg, binOp, Op.intDiv, h0]) (.int _ _)
        case _ =>
          obtain ⟨_, hc, hq⟩ := opt_inv hq
          have h0 : y ≠ 0 := by simpa using chk_inv hc
          exact ok_of (m := hR.m) hq (by simp [hg, binOp, Op.intDiv, h0]) (.int _ _)
        case _ => exact ok_of (m := hR.m) hq (by simp [hg, binOp, intBits_and]) (.int _ _)
        case _ => exact ok_of (m := hR.m) hq (by simp [hg, binOp, intBits_or]) (.int _ _)
        case _ => exact ok_of (m := hR.m) hq (by simp [hg, binOp, intBits_xor]) (.int _ _)
        case _ => exact ok_of (m := hR.m) hq (by simp [hg, binOp, intBits_andNot]) (.int _ _)
        case _ => exact ok_of (m := hR.m) hq (by simp [hg, binOp, Op.intCmp]) (.bool _)
        case _ => exact ok_of (m := hR.m) hq (by simp [hg, binOp, Op.intCmp]) (.bool _)
        case _ => exact ok_of (m := hR.m) hq (by simp [hg, binOp, Op.intCmp]) (.bool _)
        case _ => exact ok_of (m := hR.m) hq (by simp [hg, binOp, Op.intCmp]) (.bool _)
        case _ => exact ok_of (m := hR.m) hq (by simp [hg, binOp, Op.intCmp]) (.bool _)
        case _ => exact ok_of (m := hR.m) hq (by simp [hg, binOp, Op.intCmp]) (.bool _)
        case _ => cases hq
  · rename_i x y
    obtain rfl := hx.bool_inv
    obtain rfl := hy.bool_inv
    split at hq
    · rename_i ht
      have he : (Op.equal t (.bool x) (.bool y)).run P w = .ok (x == y) w := equal_of fun d => by simp [Op.equalIn, run_underlying (isBool_inv ht)]
      exact eqNe_ok hR.m hq (eqGuard_plain (by simp) (by simp)) (by simp [binOp, he]) (by simp [binOp, he])
    · cases hq
  · obtain rfl := hx.nilptr_inv
    obtain rfl := hy.nilptr_inv
    split at hq
    · rename_i ht
      obtain ⟨el, hu⟩ := isPtr_inv ht
      have he : (Op.equal t (.pointer none) (.pointer none)).run P w = .ok true w := equal_of fun d => by simp [Op.equalIn, run_underlying hu]
      exact eqNe_ok hR.m hq (eqGuard_plain (by simp) (by simp)) (by simp [binOp, he]) (by simp [binOp, he])
    · cases hq
  · obtain rfl := hx.nilsl_inv
    obtain rfl := hy.nilsl_inv
    split at hq
    · rename_i ht
      obtain ⟨el, hu⟩ := isSl_inv ht
      have he : (Op.equal t (.slice none 0 0) (.slice none 0 0)).run P w = .ok true w := equal_of fun d => by simp [Op.equalIn, run_underlying hu]
      exact eqNe_ok hR.m hq (eqGuard_plain (by simp) (by simp)) (by simp [binOp, he]) (by simp [binOp, he])
    · cases hq
  · obtain ⟨A, n, cap, rfl⟩ := hx.rosn_inv
    obtain rfl := hy.nilsl_inv
    split at hq
    · rename_i ht
      obtain ⟨el, hu⟩ := isSl_inv ht
      have he : (Op.equal t (.slice (some A) n cap) (.slice none 0 0)).run P w = .ok false w := equal_of fun d => by simp [Op.equalIn, run_underlying hu]
      exact eqNe_ok hR.m hq (eqGuard_plain (by simp) (by simp)) (by simp [binOp, he]) (by simp [binOp, he])
    · cases hq
  · obtain rfl := hx.ptr_inv
    obtain rfl := hy.nilptr_inv
    split at hq
    · rename_i ht
      obtain ⟨el, hu⟩ := isPtr_inv ht
      have he : ∀ p, (Op.equal t (.pointer (some p)) (.pointer none)).run P w = .ok false w := fun p => equal_of fun d => by simp [Op.equalIn, run_underlying hu]
      exact eqNe_ok hR.m hq (eqGuard_plain (by simp) (by simp)) (by simp [binOp, he]) (by simp [binOp, he])
    · cases hq
  · obtain rfl := hx.nilptr_inv
    obtain rfl := hy.ptr_inv
    split at hq
    · rename_i ht
      obtain ⟨el, hu⟩ := isPtr_inv ht
      have he : ∀ p, (Op.equal t (.pointer none) (.pointer (some p))).run P w = .ok false w := fun p => equal_of fun d => by simp [Op.equalIn, run_underlying hu]
      exact eqNe_ok hR.m hq (eqGuard_plain (by simp) (by simp)) (by simp [binOp, he]) (by simp [binOp, he])
    · cases hq
  · rename_i xs ys
    split at hq
    · rename_i b hb hgt
      have he : (Op.equal t v u).run P w = .ok b w := eqA_ok 8 t _ _ b v u hb hx hy 10000 (by omega)
      obtain ⟨vs, rfl, hr⟩ := hx.agg_inv
      obtain ⟨us, rfl, hr'⟩ := hy.agg_inv
      exact eqNe_ok hR.m hq (run_eqGuard_agg w op t ox oy _ _ hgt) (by simp [binOp, he]) (by simp [binOp, he])
    · cases hq
  · obtain rfl := hx.str_inv
    obtain rfl := hy.str_inv
    rename_i x y
    split at hq
    · rename_i ht
      exact eqNe_ok hR.m hq (eqGuard_plain (by simp) (by simp)) (by simp [binOp, Op.stringOp, beq_toListBytes]) (by simp [binOp, Op.stringOp, beq_toListBytes])
    · cases hq
  · obtain ⟨rfl, ha, hb⟩ := hx.cpx_inv
    obtain ⟨rfl, hc, hd⟩ := hy.cpx_inv
    rename_i x1 x2 y1 y2
    have hg : (eqGuard op t ox oy (.complex .f64 (fl x1) (fl x2)) (.complex .f64 (fl y1) (fl y2))).run P w = .ok () w := eqGuard_plain (by simp) (by simp)
    split at hq
    · obtain ⟨_, hk, hq⟩ := opt_inv hq
      have hk := chk_inv hk
      rw [Bool.and_eq_true] at hk
      have e1 : FloatKind.f64.format.add (fl x1) (fl y1) = some (fl (x1 + y1)) := fl_add ha hc hk.1
      have e2 : FloatKind.f64.format.add (fl x2) (fl y2) = some (fl (x2 + y2)) := fl_add hb hd hk.2
      exact ok_of (m := hR.m) hq (by simp [hg, binOp, Op.complexOp, Op.Complex.arith, Op.floatArith, e1, e2]) (.cpx _ _ hk.1 hk.2)
    · obtain ⟨_, hk, hq⟩ := opt_inv hq
      have hk := chk_inv hk
      rw [Bool.and_eq_true] at hk
      have e1 : FloatKind.f64.format.sub (fl x1) (fl y1) = some (fl (x1 - y1)) := fl_sub ha hc hk.1
      have e2 : FloatKind.f64.format.sub (fl x2) (fl y2) = some (fl (x2 - y2)) := fl_sub hb hd hk.2
      exact ok_of (m := hR.m) hq (by simp [hg, binOp, Op.complexOp, Op.Complex.arith, Op.floatArith, e1, e2]) (.cpx _ _ hk.1 hk.2)
    · cases hq
  · split at hq
    · rename_i ht
      obtain ⟨el, hu⟩ := isSl_inv ht
      obtain rfl := hy.nilsl_inv
      have hq1 := bind_inv' hq
      clear hq
      obtain ⟨o, l1, l2, h1, hq⟩ := hq1
      cases o with
      | none => cases hq
      | some b =>
        obtain ⟨_, hc, hq⟩ := opt_inv hq
        obtain ⟨A, n, cap, rfl⟩ := someSl_ok hR hx h1 (chk_inv hc)
        have he : (Op.equal t (.slice (some A) n cap) (.slice none 0 0)).run P w = .ok false w := equal_of fun d => by simp [Op.equalIn, run_underlying hu]
        exact eqNe_ok hR.m hq (eqGuard_plain (by simp) (by simp)) (by simp [binOp, he]) (by simp [binOp, he])
    · cases hq
  · cases hq
end
end Go.Proofs.Ytemdppcnhlnicaa.Ev
