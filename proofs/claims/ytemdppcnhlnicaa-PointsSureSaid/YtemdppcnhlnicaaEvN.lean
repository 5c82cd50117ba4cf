/- A region comes to what its text says, whatever the order. -/
import Derived.Test.YtemdppcnhlnicaaEvM
set_option linter.unusedVariables false
set_option linter.unusedSimpArgs false
namespace Go.Proofs.Ytemdppcnhlnicaa.Ev
open Go Go.RowKit
variable {G : Nat → Type}
section
variable {P : Program} {E : Env G} {C : Oracle G} {nt : Nat} {all : List Oper} {base : Nat}

/-! ### New numbers -/
theorem updOk_inv {s : St G} {b : Nat} : ∀ (u : List (Nat × Blk G)), updOk s b u = true → ∀ id, lk u id ≠ none → s.blk id ≠ none ∨ (b ≤ id ∧ id < b + stride) := by
  intro u
  induction u with
  | nil => intro _ id h; exact absurd rfl h
  | cons p u ih =>
    intro h id hid
    obtain ⟨a, k⟩ := p
    simp only [updOk] at h
    rw [lk_cons] at hid
    by_cases e : a = id
    · subst e
      split at h
      · rename_i b' hb; exact .inl (by rw [hb]; simp)
      · split at h
        · rename_i h1 h2
          exact .inr ⟨Nat.le_of_ble_eq_true h1, by have := Nat.le_of_ble_eq_true (show Nat.ble (a + 1) (b + stride) = true from h2); omega⟩
        · cases h
    · rw [if_neg e] at hid
      refine ih ?_ id hid
      split at h
      · exact h
      · split at h
        · exact h
        · cases h
theorem doM_upd {i : Nat} {o : Oper} {s : St G} {g : Option (Nat × Bool)} {x : Res G} (hs : doM P E C base i o s g = some x) : ∃ e, x.eff = some e ∧ updOk (pre s g) (base + stride * i) e.upd = true ∧
    (opQ P E C (pre s g).eval (base + stride * i) o.op).trace (pre s g).blk = some (e, x.rd) := by
  unfold doM at hs
  split at hs
  · rename_i e l ht
    split at hs
    · rename_i hu; obtain rfl := Option.some.inj hs; exact ⟨e, rfl, hu, ht⟩
    · cases hs
  · cases hs
theorem stepM_new {i : Nat} {o : Oper} {s : St G} {x : Res G} (hs : stepM P E C nt all base i o s = some x) {id : Nat} (hid : s.blk id = none) (hr : ¬ (base + stride * i ≤ id ∧ id < base + stride * i + stride)) : (goOn s o x).blk id = none := by
  have gx := stepM_gd hs
  rw [goOn_blk gx]
  cases hx : x.eff with
  | none => exact hid
  | some e =>
    simp only []
    rw [hid, Option.or_none]
    cases hl : lk e.upd id with
    | none => rfl
    | some b =>
      exfalso
      have key : ∀ g, (∀ d b, g = some (d, b) → s.get d = .bool b) → doM P E C base i o s g = some x → False := by
        intro g hg hd
        obtain ⟨e', he', hu, _⟩ := doM_upd hd
        rw [hx] at he'
        obtain rfl := Option.some.inj he'
        rcases updOk_inv _ hu id (by rw [hl]; simp) with h | h
        · rw [(pre_get s g hg).blk] at h; exact h hid
        · exact hr h
      unfold stepM at hs
      split at hs
      · cases hs
      · split at hs
        · exact key _ (fun d b h => by cases h) hs
        · split at hs
          · split at hs
            · rename_i t ht
              split at hs
              · exact key _ (fun d b h => by simp only [Option.some.injEq, Prod.mk.injEq] at h; rw [← h.1, ← h.2]; exact ht) hs
              · obtain rfl := Option.some.inj hs; cases hx
            · obtain rfl := Option.some.inj hs; cases hx
            · cases hs
          · cases hs
theorem RunX.new {X : Nat → Res G} : ∀ {L : List (Nat × Oper)} {s t : St G}, RunX P E C nt all base X L s t → ∀ id, s.blk id = none → (∀ p ∈ L, ¬ (base + stride * p.1 ≤ id ∧ id < base + stride * p.1 + stride)) → t.blk id = none := by
  intro L
  induction L with
  | nil => intro s t h id hid _; rw [← h.blk]; exact hid
  | cons p L ih =>
    intro s t h id hid hp
    obtain ⟨i, o⟩ := p
    exact ih h.2 id (stepM_new h.1 hid (hp (i, o) (by simp))) fun q hq => hp q (by simp [hq])

variable {fc : FC} {bl : Nat → Nat} {sv : Nat → Value} {s t : St G} {a : Act} {w : World} {ops : Array Oper}

theorem undef_ne (b : Bool) : undef ≠ .bool b := by unfold undef; simp

theorem step_ok (hE : EnvOk P E) (hC : OracleOk P E C) (hnt : fc.nt = nt) (hops : ops.toList = all) {i : Nat} {o : Oper} (ho : ops[i]? = some o) (hR : Rel P E fc bl sv s a w) {x : Res G} (hs : stepM P E C nt all base i o s = some x)
    (hf : Fresh s (base + stride * i)) {K : Act → World → Prop} {Q : Exit → Act → World → Prop} (hK : ∀ a' w' bl' sv', Rel P E fc bl' sv' (goOn s o x) a' w' → K a' w') {ro : Option Nat} {n : Nat} : wpOpIn (WF ro) n P ops Q i K a w := by
  have hall : ∀ j, all[j]? = ops[j]? := fun j => by rw [← hops, Array.getElem?_toList]
  unfold wpOpIn
  simp only [ho]
  have perform : ∀ g, (∀ d b, g = some (d, b) → s.get d = .bool b) → doM P E C base i o s g = some x → dstOk nt o.dst = true → o.wpIn (WF ro) n P a w K Q := by
    intro g hg hd hdst
    obtain ⟨e, he, hu, ht⟩ := doM_upd hd
    have hgd := doM_gd hd
    have hse := pre_get s g hg
    have hR' : Rel P E fc bl sv (pre s g) a w := hse.symm.rel hR
    have hf' : Fresh (pre s g) (base + stride * i) := fun id h1 h2 => by rw [hse.blk]; exact hf id h1 h2
    refine op_ok hE hC hR' hf' ht ro n K Q fun v w' hout => ?_
    have hdb : ∀ y, o.dst = some y → y < fc.nt := by
      intro y hy
      rw [hy] at hdst
      rw [hnt]
      exact Nat.le_of_ble_eq_true (show Nat.ble (y + 1) nt = true from hdst)
    obtain ⟨bl', sv', h⟩ := hR'.app hdb hout
    refine hK _ _ bl' sv' ?_
    unfold goOn
    rw [he, hgd]
    exact h
  unfold stepM at hs
  split at hs
  · cases hs
  · rename_i hdst
    split at hs
    · rename_i hg
      rw [if_pos (by simp [Region.wanted, hg])]
      exact (perform none (fun d b h => by cases h) hs hdst)
    · rename_i j want hg
      split at hs
      · rename_i d hd
        split at hs
        · rename_i b hb
          have htm := hR.tmps d
          rw [hb] at htm
          have hv := htm.bool_inv
          have hy : yielded ops a.tmps j = some b := by
            rw [hall] at hd
            unfold yielded
            rw [hd]
            simp only [Option.bind_some]
            have : a.tmps[d]? = some (.bool b) := by
              rw [Array.getD_eq_getD_getElem?] at hv
              cases hq : a.tmps[d]? with
              | none => rw [hq] at hv; exact absurd hv (undef_ne b)
              | some y => rw [hq] at hv; simpa using hv
            rw [this]
          have hw : Region.wanted o (yielded ops a.tmps) = (b == want) := by
            simp [Region.wanted, hg, hy]
          rw [hw]
          split at hs
          · rename_i hbw
            subst hbw
            rw [if_pos (by simp)]
            exact (perform (some (d, b)) (fun d' b' h => by simp only [Option.some.injEq, Prod.mk.injEq] at h; rw [← h.1, ← h.2]; exact hb) hs hdst)
          · rename_i hbw
            rw [if_neg (by simpa using hbw)]
            obtain rfl := Option.some.inj hs
            have hg' : ∀ d' b', (some (d, b) : Option (Nat × Bool)) = some (d', b') → s.get d' = .bool b' := fun d' b' h => by simp only [Option.some.injEq, Prod.mk.injEq] at h; rw [← h.1, ← h.2]; exact hb
            have hR' : Rel P E fc bl sv (pre s (some (d, b))) a w := (pre_get s _ hg').symm.rel hR
            refine ⟨fun _ _ => trivial, hK _ _ bl sv ?_⟩
            exact hR'.put (fun y hy => by
              rw [hy] at hdst
              rw [hnt]
              exact Nat.le_of_ble_eq_true (show Nat.ble (y + 1) nt = true from hdst)) (.tup [] [] rfl fun j h => by simp at h)
        · rename_i hb
          have htm := hR.tmps d
          rw [hb] at htm
          obtain ⟨vs, hv, hr0⟩ := htm.tup_inv
          obtain rfl := hr0.nil_inv
          have hy : yielded ops a.tmps j = none := by
            rw [hall] at hd
            unfold yielded
            rw [hd]
            simp only [Option.bind_some]
            rw [Array.getD_eq_getD_getElem?] at hv
            cases hq : a.tmps[d]? with
            | none => rfl
            | some y => rw [hq] at hv; simp only [Option.getD_some] at hv; rw [hv]
          have hw : Region.wanted o (yielded ops a.tmps) = false := by
            simp [Region.wanted, hg, hy]
          rw [hw, if_neg (by simp)]
          obtain rfl := Option.some.inj hs
          refine ⟨fun _ _ => trivial, hK _ _ bl sv ?_⟩
          exact hR.put (fun y hy => by
            rw [hy] at hdst
            rw [hnt]
            exact Nat.le_of_ble_eq_true (show Nat.ble (y + 1) nt = true from hdst)) (.tup [] [] rfl fun j h => by simp at h)
        · cases hs
      · cases hs

/-! ### In the text's order -/
theorem wpOps_text (hE : EnvOk P E) (hC : OracleOk P E C) (hnt : fc.nt = nt) (hops : ops.toList = all) {X : Nat → Res G} {Q : Exit → Act → World → Prop} (hQ : ∀ a' w' bl' sv', Rel P E fc bl' sv' t a' w' → Q .normal a' w') {ro : Option Nat} {n : Nat} :
    ∀ (L : List (Nat × Oper)) (s : St G) (a : Act) (w : World) (bl : Nat → Nat) (sv : Nat → Value), (∀ p ∈ L, ops[p.1]? = some p.2) → (L.map (·.1)).Nodup → RunX P E C nt all base X L s t → Rel P E fc bl sv s a w → (∀ p ∈ L, Fresh s (base + stride * p.1)) →
      wpOpsIn (WF ro) n P ops Q (L.map (·.1)) a w := by
  intro L
  induction L with
  | nil => intro s a w bl sv _ _ h hR _; exact hQ a w bl sv (h.rel hR)
  | cons p L ih =>
    intro s a w bl sv hop hnd h hR hf
    obtain ⟨i, o⟩ := p
    simp only [List.map_cons, List.nodup_cons] at hnd
    rw [List.map_cons, wpOpsIn_cons]
    refine step_ok hE hC hnt hops (hop (i, o) (by simp)) hR h.1 (hf (i, o) (by simp)) fun a' w' bl' sv' hR' => ?_
    refine ih _ a' w' bl' sv' (fun q hq => hop q (by simp [hq])) hnd.2 h.2 hR' fun q hq id h1 h2 => ?_
    refine stepM_new h.1 (hf q (by simp [hq]) id h1 h2) fun hh => ?_
    have hne : q.1 ≠ i := fun e => hnd.1 (e ▸ List.mem_map.2 ⟨q, hq, rfl⟩)
    unfold stride at *
    omega

/-! ### In whatever order -/
def isL (l : Array Bool) (k : Nat) : Bool := l.getD k false
def UL (all : List Oper) (l : Array Bool) : List (Nat × Oper) := (numb all 0).filter fun p => !isL l p.1

theorem numb_split : ∀ (ops : List Oper) (k i : Nat) (o : Oper), ops[i]? = some o → ∃ A B, numb ops k = A ++ (k + i, o) :: B ∧ (∀ p ∈ A, p.1 < k + i) ∧ ∀ p ∈ B, k + i < p.1 := by
  intro ops
  induction ops with
  | nil => intro k i o h; simp at h
  | cons o' ops ih =>
    intro k i o h
    cases i with
    | zero =>
      simp only [List.getElem?_cons_zero, Option.some.injEq] at h
      subst h
      exact ⟨[], numb ops (k + 1), rfl, by simp, fun p hp => by have := (numb_mem ops (k + 1) p hp).1; omega⟩
    | succ i =>
      obtain ⟨A, B, h1, h2, h3⟩ := ih (k + 1) i o (by simpa using h)
      refine ⟨(k, o') :: A, B, by simp only [numb, h1, List.cons_append]; rw [show k + 1 + i = k + (i + 1) by omega], fun p hp => ?_, fun p hp => by have := h3 p hp; omega⟩
      rcases List.mem_cons.1 hp with rfl | hp
      · show k < k + (i + 1); omega
      · have := h2 p hp; omega

theorem rowOk_inv {log : List Mk} {b : Oper} {j bits : Nat} : ∀ (l : List Oper) (i : Nat), rowOk all log b j bits l i = true → ∀ k a, l[k]? = some a → i + k < j → bits.testBit (i + k) = true ∨ pairOk all log a b (i + k) j = true := by
  intro l
  induction l with
  | nil => intro i _ k a h; simp at h
  | cons o l ih =>
    intro i h k a hk hlt
    simp only [rowOk] at h
    have hij : Nat.blt i j = true := by show Nat.ble (i + 1) j = true; exact Nat.ble_eq_true_of_le (by omega)
    simp only [hij] at h
    have rest : rowOk all log b j bits l (i + 1) = true := by
      split at h
      · exact h
      · split at h
        · exact h
        · cases h
    cases k with
    | zero =>
      simp only [List.getElem?_cons_zero, Option.some.injEq] at hk
      subst hk
      rw [Nat.add_zero]
      split at h
      · rename_i hb; exact .inl hb
      · split at h
        · rename_i hp; exact .inr hp
        · cases h
    | succ k =>
      have := ih (i + 1) rest k a (by simpa using hk) (by omega)
      rw [show i + 1 + k = i + (k + 1) by omega] at this
      exact this
theorem freeRows_inv {log : List Mk} : ∀ (r : List Oper) (vs : List Nat) (j : Nat), freeRows all log r vs j = true → ∀ k b v, r[k]? = some b → vs[k]? = some v → rowOk all log b (j + k) v all 0 = true := by
  intro r
  induction r with
  | nil => intro vs j _ k b v h; simp at h
  | cons o r ih =>
    intro vs j h k b v hb hv
    cases vs with
    | nil => simp at hv
    | cons v' vs =>
      simp only [freeRows] at h
      split at h
      · rename_i hr
        cases k with
        | zero => simp at hb hv; subst hb; subst hv; exact hr
        | succ k =>
          have := ih vs (j + 1) h k b v (by simpa using hb) (by simpa using hv)
          rw [show j + 1 + k = j + (k + 1) by omega] at this
          exact this
      · cases h
theorem depsOk_inv : ∀ (r : List Oper) (j : Nat), depsOk r j = true → ∀ k b, r[k]? = some b → ∀ e ∈ b.after.toList, Region.binds .any e = true → e.on < j + k := by
  intro r
  induction r with
  | nil => intro j _ k b h; simp at h
  | cons o r ih =>
    intro j h k b hb e he hbi
    simp only [depsOk] at h
    split at h
    · rename_i hr
      cases k with
      | zero =>
        simp at hb; subst hb
        have := List.all_eq_true.1 hr e he
        simp only [hbi] at this
        have h2 := Nat.le_of_ble_eq_true (show Nat.ble (e.on + 1) j = true from this)
        omega
      | succ k =>
        have := ih (j + 1) h k b (by simpa using hb) e he hbi
        omega
    · cases h

/-- What is listed has what goes ahead of it listed. -/
def Shut (ops : Array Oper) (l : Array Bool) : Prop := ∀ k o, ops[k]? = some o → isL l k = true → ∀ e ∈ o.after.toList, Region.binds .any e = true → isL l e.on = true
theorem shut_ahead (hops : ops.toList = all) {l : Array Bool} (hs : Shut ops l) : ∀ (n i : Nat), i ≤ n → ∀ o, ops[i]? = some o → (∀ e ∈ o.after.toList, Region.binds .any e = true → isL l e.on = true) → ∀ v, (aheadL all [])[i]? = some v → ∀ j, v.testBit j = true → isL l j = true := by
  have hall : ∀ j, all[j]? = ops[j]? := fun j => by rw [← hops, Array.getElem?_toList]
  intro n
  induction n with
  | zero =>
    intro i hi o ho hd v hv j hj
    obtain rfl : i = 0 := by omega
    obtain ⟨e, he, hb, h⟩ := (aheadL_get all []).2.2 0 v o (by rw [hall]; exact ho) (by simpa using hv) j hj
    rcases h with h | ⟨h, _⟩
    · exact h ▸ hd e he hb
    · simp at h
  | succ n ih =>
    intro i hi o ho hd v hv j hj
    obtain ⟨e, he, hb, h⟩ := (aheadL_get all []).2.2 i v o (by rw [hall]; exact ho) (by simpa using hv) j hj
    rcases h with h | ⟨h, h'⟩
    · exact h ▸ hd e he hb
    · have hlt : e.on < i := by simpa using h
      have hin : i < ops.size := (Array.getElem?_eq_some_iff.1 ho).1
      have hoe : ops[e.on]? = some ops[e.on] := Array.getElem?_eq_getElem (by omega)
      have hlen : e.on < (aheadL all []).length := by
        rw [(aheadL_get all []).2.1]; simp [← hops]; omega
      refine ih e.on (by omega) _ hoe (fun e2 he2 hb2 => hs e.on _ hoe (hd e he hb) e2 he2 hb2) _ (List.getElem?_eq_getElem hlen) j ?_
      rw [List.getD_eq_getElem?_getD, List.getElem?_eq_getElem hlen] at h'
      exact h'

theorem wpAny_run (hE : EnvOk P E) (hC : OracleOk P E C) (hnt : fc.nt = nt) (hops : ops.toList = all) {X : Nat → Res G} {log : List Mk} (hfree : freeOrder all log = true) (hlog : ∀ k, k < all.length → mkOf log k = (X k).mk') {Q : Exit → Act → World → Prop} (hQ : ∀ a' w' bl' sv', Rel P E fc bl' sv' t a' w' → Q .normal a' w') {ro : Option Nat} {n : Nat} :
    ∀ (fuel : Nat) (l : Array Bool) (s : St G) (a : Act) (w : World) (bl : Nat → Nat) (sv : Nat → Value), l.size = ops.size → Shut ops l → (UL all l).length = fuel → RunX P E C nt all base X (UL all l) s t → Rel P E fc bl sv s a w → (∀ p ∈ UL all l, Fresh s (base + stride * p.1)) →
      wpAnyIn (WF ro) n P .any ops Q fuel l a w := by
  have hall : ∀ j, all[j]? = ops[j]? := fun j => by rw [← hops, Array.getElem?_toList]
  have hn : all.length = ops.size := by rw [← hops]; simp
  unfold freeOrder at hfree
  split at hfree
  case h_2 => cases hfree
  rename_i hdeps
  have ready_iff : ∀ (l : Array Bool), l.size = ops.size → ∀ i, i ∈ Region.ready .any ops l → ∃ o, ops[i]? = some o ∧ isL l i = false ∧ ∀ e ∈ o.after.toList, Region.binds .any e = true → isL l e.on = true := by
    intro l hl i hi
    unfold Region.ready at hi
    rw [List.mem_filter] at hi
    obtain ⟨h1, h2⟩ := hi
    simp only [Bool.and_eq_true, Bool.not_eq_true'] at h2
    have hin : i < ops.size := by simpa using h1
    have ho : ops[i]? = some ops[i] := Array.getElem?_eq_getElem hin
    refine ⟨ops[i], ho, ?_, fun e he hb => ?_⟩
    · have := h2.1
      unfold isL
      rw [Array.getD_eq_getD_getElem?] at this ⊢
      rw [Array.getElem?_eq_getElem (by omega)] at this ⊢
      exact this
    · have := h2.2
      rw [ho] at this
      simp only [Option.map_some, Option.getD_some] at this
      rw [Array.all_eq_true_iff_forall_mem] at this
      have := this e (by simpa using he)
      unfold isL
      simpa [hb] using this
  have mem_UL : ∀ (l : Array Bool) i o, ops[i]? = some o → isL l i = false → (i, o) ∈ UL all l := by
    intro l i o ho hl
    obtain ⟨A, B, h1, _, _⟩ := numb_split all 0 i o (by rw [hall]; exact ho)
    unfold UL
    rw [List.mem_filter]
    refine ⟨by rw [h1]; simp, by simp [hl]⟩
  intro fuel
  induction fuel with
  | zero =>
    intro l s a w bl sv hls hsh hlen hrun hR hf
    have hnil := List.eq_nil_of_length_eq_zero hlen
    refine ⟨?_, ?_⟩
    · rw [List.eq_nil_iff_forall_not_mem]
      intro i hi
      obtain ⟨o, ho, hl, _⟩ := ready_iff l hls i hi
      have := mem_UL l i o ho hl
      rw [hnil] at this
      cases this
    · rw [hnil] at hrun
      exact hQ a w bl sv (SEq.rel hrun hR)
  | succ fuel ih =>
    intro l s a w bl sv hls hsh hlen hrun hR hf
    refine ⟨fun hrd => ?_, fun i hi => ?_⟩
    · exfalso
      cases hU : UL all l with
      | nil => rw [hU] at hlen; simp at hlen
      | cons p U =>
        obtain ⟨i, o⟩ := p
        have hm : (i, o) ∈ UL all l := by rw [hU]; simp
        have hm' := hm
        unfold UL at hm'
        rw [List.mem_filter] at hm'
        obtain ⟨h1, h2⟩ := hm'
        have h3 := numb_mem all 0 (i, o) h1
        have ho : ops[i]? = some o := by rw [← hall]; simpa using h3.2.2
        have hil : isL l i = false := by simpa using h2
        have hin : i < ops.size := by have := h3.2.1; omega
        have hready : i ∈ Region.ready .any ops l := by
          unfold Region.ready
          rw [List.mem_filter]
          refine ⟨by simpa using hin, ?_⟩
          simp only [Bool.and_eq_true, Bool.not_eq_true']
          refine ⟨?_, ?_⟩
          · unfold isL at hil
            rw [Array.getD_eq_getD_getElem?] at hil ⊢
            rw [Array.getElem?_eq_getElem (by omega)] at hil ⊢
            exact hil
          · rw [ho]
            simp only [Option.map_some, Option.getD_some]
            rw [Array.all_eq_true_iff_forall_mem]
            intro e he
            cases hb : Region.binds .any e with
            | false => simp
            | true =>
              have hlt := depsOk_inv all 0 hdeps i o (by rw [hall]; exact ho) e (by simpa using he) hb
              simp only [Bool.not_true, Bool.false_or]
              show isL l e.on = true
              cases hle : isL l e.on with
              | true => rfl
              | false =>
                exfalso
                have hoe : ops[e.on]? = some ops[e.on] := Array.getElem?_eq_getElem (by omega)
                -- the first one that isn't listed is i
                obtain ⟨A, B, g1, g2, g3⟩ := numb_split all 0 i o (by rw [hall]; exact ho)
                have hA : (e.on, ops[e.on]) ∈ A := by
                  obtain ⟨A', B', k1, _, _⟩ := numb_split all 0 e.on ops[e.on] (by rw [hall]; exact hoe)
                  have : (0 + e.on, ops[e.on]) ∈ numb all 0 := by rw [k1]; simp
                  rw [g1] at this
                  simp only [Nat.zero_add] at this
                  rcases List.mem_append.1 this with h | h
                  · exact h
                  · rcases List.mem_cons.1 h with h | h
                    · simp only [Prod.mk.injEq] at h; omega
                    · have := g3 _ h; simp only [Nat.zero_add] at this; omega
                unfold UL at hU
                rw [g1, List.filter_append] at hU
                cases hFA : A.filter (fun p => !isL l p.1) with
                | nil =>
                  have : (e.on, ops[e.on]) ∈ A.filter (fun p => !isL l p.1) := List.mem_filter.2 ⟨hA, by simp [hle]⟩
                  rw [hFA] at this; cases this
                | cons q F =>
                  rw [hFA] at hU
                  simp only [List.cons_append, List.cons.injEq] at hU
                  have hq : q ∈ A := (List.mem_filter.1 (by rw [hFA]; simp : q ∈ A.filter (fun p => !isL l p.1))).1
                  have := g2 q hq
                  rw [hU.1] at this
                  simp only [Nat.zero_add] at this
                  omega
        rw [hrd] at hready
        cases hready
    · obtain ⟨o, ho, hil, hde⟩ := ready_iff l hls i hi
      have hin : i < ops.size := (Array.getElem?_eq_some_iff.1 ho).1
      obtain ⟨A, B, g1, g2, g3⟩ := numb_split all 0 i o (by rw [hall]; exact ho)
      simp only [Nat.zero_add] at g1 g2 g3
      have hU : UL all l = A.filter (fun p => !isL l p.1) ++ (i, o) :: B.filter (fun p => !isL l p.1) := by
        unfold UL
        rw [g1, List.filter_append, List.filter_cons, if_pos (by simp [hil])]
      have hset : ∀ k, k ≠ i → isL (l.setIfInBounds i true) k = isL l k := by
        intro k hk
        unfold isL
        rw [Array.getD_eq_getD_getElem?, Array.getD_eq_getD_getElem?, Array.getElem?_setIfInBounds_ne (Ne.symm hk)]
      have hseti : isL (l.setIfInBounds i true) i = true := by
        unfold isL
        rw [Array.getD_eq_getD_getElem?, Array.getElem?_setIfInBounds]
        simp [hls, hin]
      have hU' : UL all (l.setIfInBounds i true) = A.filter (fun p => !isL l p.1) ++ B.filter (fun p => !isL l p.1) := by
        unfold UL
        rw [g1, List.filter_append, List.filter_cons, if_neg (by simp [hseti])]
        congr 1
        · exact List.filter_congr fun p hp => by rw [hset _ (by have := g2 p hp; omega)]
        · exact List.filter_congr fun p hp => by rw [hset _ (by have := g3 p hp; omega)]
      rw [hU] at hrun
      have hvlen : i < (aheadL all []).length := by rw [(aheadL_get all []).2.1]; simp; omega
      have hpairs : ∀ p ∈ A.filter (fun p => !isL l p.1), apart all p.2 o = true ∧ calm (X p.1).mk' (X i).mk' = true := by
        intro p hp
        obtain ⟨hpA, hpl⟩ := List.mem_filter.1 hp
        have hplt := g2 p hpA
        have hpn : p ∈ numb all 0 := by rw [g1]; simp [hpA]
        have hpo := numb_mem all 0 p hpn
        have hrow := freeRows_inv all _ 0 hfree i o _ (by rw [hall]; exact ho) (List.getElem?_eq_getElem hvlen)
        have := rowOk_inv all 0 hrow p.1 p.2 (by simpa using hpo.2.2) (by omega)
        simp only [Nat.zero_add] at this
        rcases this with h | h
        · have := shut_ahead hops hsh i i (Nat.le_refl _) o ho hde _ (List.getElem?_eq_getElem hvlen) p.1 h
          rw [this] at hpl; simp at hpl
        · unfold pairOk at h
          simp only [Bool.and_eq_true] at h
          rw [hlog p.1 (by omega), hlog i (by omega)] at h
          exact h
      obtain ⟨hst, hrun'⟩ := hrun.front hpairs
      have hfi : Fresh s (base + stride * i) := hf (i, o) (by rw [hU]; simp)
      refine step_ok hE hC hnt hops ho hR hst hfi fun a' w' bl' sv' hR' => ?_
      have hfi' : ∀ p ∈ UL all (l.setIfInBounds i true), Fresh (goOn s o (X i)) (base + stride * p.1) := by
        intro p hp id h1 h2
        have hne : p.1 ≠ i := by
          unfold UL at hp
          have := (List.mem_filter.1 hp).2
          intro e
          rw [e, hseti] at this
          simp at this
        have hpU : p ∈ UL all l := by
          rw [hU'] at hp
          rw [hU]
          rcases List.mem_append.1 hp with h | h
          · simp [h]
          · simp [h]
        refine stepM_new hst (hf p hpU id h1 h2) fun hh => ?_
        unfold stride at *
        omega
      refine ih (l.setIfInBounds i true) _ a' w' bl' sv' (by simp [hls]) ?_ ?_ ?_ hR' hfi'
      · intro k o' hk hkl e he hb
        by_cases hki : k = i
        · subst hki
          rw [ho] at hk
          obtain rfl := Option.some.inj hk
          have := hde e he hb
          by_cases hei : e.on = k
          · rw [hei]; exact hseti
          · rw [hset _ hei]; exact this
        · rw [hset _ hki] at hkl
          have := hsh k o' hk hkl e he hb
          by_cases hei : e.on = i
          · rw [hei]; exact hseti
          · rw [hset _ hei]; exact this
      · rw [hU] at hlen
        rw [hU']
        simp only [List.length_append, List.length_cons] at hlen ⊢
        omega
      · rw [hU']
        exact hrun'
end
end Go.Proofs.Ytemdppcnhlnicaa.Ev
