/- A call of what is known as a function on terms: what it leaves to the caller. -/
import Derived.Test.YtemdppcnhlnicaaEvR
set_option linter.unusedVariables false
set_option linter.unusedSimpArgs false
namespace Go.Proofs.Ytemdppcnhlnicaa.Ev
open Go Go.RowKit
variable {G : Nat → Type}
section
variable {P : Program} {E : Env G} {fc : FC} {bl : Nat → Nat} {sv : Nat → Value} {st : St G} {w : World}

/-- The frame that a callee works in. -/
def inner (m : MRel P E fc bl sv st w) (s : CS G) (H : Inv (st.cx P E fc bl sv w) st.blk s) : FC where
  w0 := w
  nt := 0
  may := fun g => ∃ j, owns (hst s.hp) (blT s.ids bl) (svT s.ids sv) j g
  no := fun g => (∃ id, owns st bl sv id g ∧ (∀ j, lk s.ids j ≠ some (some id)) ∧ id ∉ s.lent) ∨ fc.no g
  an := fun _ => False
  bl0 := blT s.ids bl
  sv0 := svT s.ids sv
  calm := by
    rintro g (⟨id, ho, hn, _⟩ | hg)
    · refine ⟨owns_lt m ho, ?_⟩
      rintro ⟨j, hj⟩
      obtain ⟨i, h1, h2⟩ := own_kind (b := .dead) H rfl rfl rfl hj
      obtain rfl := m.disj _ _ _ ho h2
      exact hn j h1
    · have := fc.calm g hg
      refine ⟨Nat.lt_of_lt_of_le this.1 m.grow, ?_⟩
      rintro ⟨j, hj⟩
      obtain ⟨i, h1, h2⟩ := own_kind (b := .dead) H rfl rfl rfl hj
      rcases m.own i g h2 with h' | h'
      · exact this.2 h'
      · omega

theorem inner_ok (m : MRel P E fc bl sv st w) {s : CS G} (H : Inv (st.cx P E fc bl sv w) st.blk s) (hset : settled s = true) {as : List (AV G)} {vals : List Value}
    (R : ∀ (O : Nat → Prop), GoodO (st.cx P E fc bl sv w) st.blk s O → Reps (cT (st.cx P E fc bl sv w) s.ids O) as vals ∧ ∀ j b, lk s.hp j = some b → BlkOk (cT (st.cx P E fc bl sv w) s.ids O) j b) :
    MRel P E (inner m s H) (blT s.ids bl) (svT s.ids sv) (hst s.hp) w ∧ Reps ((hst s.hp).cx P E (inner m s H) (blT s.ids bl) (svT s.ids sv) w) as vals := by
  obtain ⟨hs1, hs2⟩ := settled_inv hset
  have ok : ∀ j g, owns (hst s.hp) (blT s.ids bl) (svT s.ids sv) j g → ∃ i, lk s.ids j = some (some i) ∧ owns st bl sv i g := fun j g ho => own_kind (b := .dead) H rfl rfl rfl ho
  have hcx : cT (st.cx P E fc bl sv w) s.ids ((hst s.hp).cx P E (inner m s H) (blT s.ids bl) (svT s.ids sv) w).ow = (hst s.hp).cx P E (inner m s H) (blT s.ids bl) (svT s.ids sv) w := by
    have hlv : (fun j => (lk s.ids j).isSome = true) = fun j => ((hst s.hp).blk j).isSome = true := by
      funext j
      show _ = ((lk s.hp j).isSome = true)
      apply propext
      constructor
      · intro hj
        obtain ⟨x, hx⟩ := Option.isSome_iff_exists.1 hj
        exact (hs1 j x hx).1
      · intro hj
        obtain ⟨b, hb⟩ := Option.isSome_iff_exists.1 hj
        rcases H.kind j b hb with ⟨i, b', h1, _⟩ | ⟨h1, _⟩ <;> rw [h1] <;> rfl
    unfold cT St.cx
    simp only [hlv]
  have hgo : GoodO (st.cx P E fc bl sv w) st.blk s ((hst s.hp).cx P E (inner m s H) (blT s.ids bl) (svT s.ids sv) w).ow := by
    refine ⟨?_, ?_⟩
    · rintro g (⟨j, hj⟩ | ⟨id, hg, _⟩ | hg)
      · obtain ⟨i, _, hi⟩ := ok j g hj
        exact .inl ⟨i, hi⟩
      · exact .inl ⟨id, hg⟩
      · exact .inr hg
    · intro i hi g hg
      have hoi : owns st bl sv i g := lent_owns hg
      rintro (⟨j, hj⟩ | ⟨id, hg', _, hl⟩ | hg')
      · obtain ⟨i', h1, h2⟩ := ok j g hj
        obtain rfl := m.disj _ _ _ hoi h2
        exact taken_false (hs2 i hi) j h1
      · obtain rfl := m.disj _ _ _ hoi hg'
        exact hl hi
      · have := fc.calm g hg'
        rcases m.own i g hoi with h' | h'
        · exact this.2 h'
        · omega
  obtain ⟨R1, R2⟩ := R _ hgo
  rw [hcx] at R1 R2
  refine ⟨⟨fun j b hb => R2 j b hb, ?_, rfl, rfl, rfl, Nat.le_refl _, fun _ _ _ => rfl, fun j g ho => .inl ⟨j, ho⟩, fun _ h => h.elim, Nat.le_refl _⟩, R1⟩
  intro j j' g h1 h2
  obtain ⟨i, a1, a2⟩ := ok j g h1
  obtain ⟨i', b1, b2⟩ := ok j' g h2
  obtain rfl := m.disj _ _ _ a2 b2
  exact H.inj _ _ _ a1 b1

theorem callQ_ok (hE : EnvOk P E) {g : Cal} {V W : Type} {encV : V → List (AV G) × List (Nat × Blk G)} {f : V → Option W} {encW : W → List (AV G) × List (Nat × Blk G)} (hF : CalOk P E g encV f encW)
    {ps : List Pat} {dec : List (AV G) → List (Nat × Blk G) → Option V} (hdec : ∀ as hp v, dec as hp = some v → encV v = (as, hp))
    (m : MRel P E fc bl sv st w) {args : List (AV G)} {vals : List Value} (hargs : Reps (st.cx P E fc bl sv w) args vals) {base : Nat} (hfr : Fresh st base) {e : Eff G} {l : List Nat}
    (hq : (callQ P E ps dec f encW args base).trace st.blk = some (e, l)) : CalRes P g vals w (Out P E fc bl sv st w e) := by
  unfold callQ at hq
  obtain ⟨⟨as, s⟩, l1, l2, h1, h2⟩ := bind_inv hq
  clear hq
  simp only [] at h2
  split at h2
  · rename_i v hset hde
    obtain ⟨r, hr, h2⟩ := opt_inv h2
    unfold retQ at h2
    split at h2
    · rename_i hlt hro
      obtain rfl := ret_inv h2
      obtain ⟨H, R⟩ := canonL_ok (c := st.cx P E fc bl sv w) hE (fun id b hb => m.blks id b hb) h1 hargs
      obtain ⟨hs1, hs2⟩ := settled_inv hset
      obtain ⟨m1, r1⟩ := inner_ok m H hset R
      have hv := hdec _ _ _ hde
      have hhp : (encV v).2 = s.hp := by rw [hv]
      have has : (encV v).1 = as := by rw [hv]
      have ids_of : ∀ j, (lk s.hp j).isSome = true → ∃ x, lk s.ids j = some x := by
        intro j hj
        obtain ⟨b, hb⟩ := Option.isSome_iff_exists.1 hj
        rcases H.kind j b hb with ⟨i, b', h1, _⟩ | ⟨h1, _⟩
        · exact ⟨_, h1⟩
        · exact ⟨_, h1⟩
      have hcall := hF v r hr (inner m s H) (blT s.ids bl) (svT s.ids sv) w vals rfl (fun _ h => h) (by rw [hhp]; exact m1) (by rw [hhp, has]; exact r1) (fun j hj => by
        rw [hhp] at hj
        obtain ⟨x, hx⟩ := ids_of j hj
        exact (hs1 j x hx).2)
      refine hcall.mono ?_
      rintro rv w' ⟨bl2, sv2, m2, rep2, keep2⟩
      rw [hhp] at keep2
      have ok1 : ∀ j g, owns (hst s.hp) (blT s.ids bl) (svT s.ids sv) j g → ∃ i, lk s.ids j = some (some i) ∧ owns st bl sv i g := fun j g ho => own_kind (b := .dead) H rfl rfl rfl ho
      -- the numbers
      have live : ∀ j i, lk s.ids j = some (some i) → (st.blk i).isSome = true := by
        intro j i hj
        obtain ⟨b, hb⟩ := Option.isSome_iff_exists.1 (hs1 j _ hj).1
        rcases H.kind j b hb with ⟨i', b', h1, h2, _⟩ | ⟨h1, _⟩
        · rw [hj] at h1; simp only [Option.some.injEq] at h1; subst h1; rw [h2]; rfl
        · rw [hj] at h1; simp at h1
      have hlt' : ∀ j b, lk (encW r).2 j = some b → j < stride := fun j b hj => by
        have := List.all_eq_true.1 hlt _ (lk_mem hj)
        simpa [Nat.blt_eq] using this
      have hback : ∀ j, (∃ i, lk s.ids j = some (some i) ∧ back s.ids base j = i) ∨ ((∀ i, lk s.ids j ≠ some (some i)) ∧ back s.ids base j = base + j) := by
        intro j
        unfold back
        split
        · rename_i i hi; exact .inl ⟨i, hi, rfl⟩
        · rename_i hn; exact .inr ⟨fun i hi => hn i hi, rfl⟩
      have hinj : ∀ j j', j < stride → j' < stride → back s.ids base j = back s.ids base j' → j = j' := by
        intro j j' hj hj' he
        rcases hback j with ⟨i, a1, a2⟩ | ⟨a1, a2⟩ <;> rcases hback j' with ⟨i', b1, b2⟩ | ⟨b1, b2⟩
        · rw [a2, b2] at he; subst he; exact H.inj _ _ _ a1 b1
        · rw [a2, b2] at he; subst he
          have := live j _ a1
          rw [hfr (base + j') (by omega) (by omega)] at this; cases this
        · rw [a2, b2] at he; subst he
          have := live j' _ b1
          rw [hfr (base + j) (by omega) (by omega)] at this; cases this
        · omega
      let st2 : St G := st.upd ((encW r).2.map (backB s.ids base) ++ gone s.ids (encW r).2)
      let bl3 : Nat → Nat := fun id => match (st.blk id).isSome with | true => bl id | false => bl2 (id - base)
      let sv3 : Nat → Value := fun id => match (st.blk id).isSome with | true => sv id | false => sv2 (id - base)
      have bl3_old : ∀ id, (st.blk id).isSome = true → bl3 id = bl id ∧ sv3 id = sv id := fun id h => by simp only [bl3, sv3, h, and_self]
      have bl3_back : ∀ j, (lk (encW r).2 j).isSome = true → bl3 (back s.ids base j) = bl2 j ∧ sv3 (back s.ids base j) = sv2 j := by
        intro j hj
        obtain ⟨b, hb⟩ := Option.isSome_iff_exists.1 hj
        rcases hback j with ⟨i, a1, a2⟩ | ⟨a1, a2⟩
        · rw [a2]
          have h3 := bl3_old i (live j i a1)
          have h4 := keep2 j (hs1 j _ a1).1 hj
          rw [h3.1, h3.2, h4.1, h4.2]
          unfold blT svT
          rw [a1]
          exact ⟨rfl, rfl⟩
        · rw [a2]
          have : st.blk (base + j) = none := hfr _ (by omega) (by have := hlt' j b hb; omega)
          simp only [bl3, sv3, this, Option.isSome_none, Nat.add_sub_cancel_left, and_self]
      have upd : ∀ id, st2.blk id = (lk ((encW r).2.map (backB s.ids base) ++ gone s.ids (encW r).2) id).or (st.blk id) := fun id => St.upd_blk st _ id
      let U : Nat → Prop := fun id => (∃ j, lk s.ids j = some (some id)) ∨ (base ≤ id ∧ id < base + stride)
      have backU : ∀ j, j < stride → U (back s.ids base j) := by
        intro j hj
        rcases hback j with ⟨i, a1, a2⟩ | ⟨a1, a2⟩
        · rw [a2]; exact .inl ⟨j, a1⟩
        · rw [a2]; exact .inr ⟨by omega, by omega⟩
      have old : ∀ id, ¬ U id → st2.blk id = st.blk id := by
        intro id hu
        rw [upd, lk_append]
        cases h1 : lk ((encW r).2.map (backB s.ids base)) id with
        | some b =>
          obtain ⟨j, b0, h3, h4, _⟩ := lk_backB h1
          exact absurd (h4 ▸ backU j (hlt' j b0 h3)) hu
        | none =>
          cases h2 : lk (gone s.ids (encW r).2) id with
          | some b =>
            obtain ⟨_, j, h3, _⟩ := gone_dead (lk_mem h2)
            exact absurd (.inl ⟨j, h3⟩) hu
          | none => rfl
      have isNew : ∀ id b, U id → st2.blk id = some b → b = .dead ∨ ∃ j b0, lk (encW r).2 j = some b0 ∧ back s.ids base j = id ∧ b = b0.ren (back s.ids base) := by
        intro id b hu hb
        rw [upd, lk_append] at hb
        cases h1 : lk ((encW r).2.map (backB s.ids base)) id with
        | some b' =>
          rw [h1] at hb
          simp only [Option.some_or, Option.some.injEq] at hb
          obtain ⟨j, b0, h3, h4, h5⟩ := lk_backB h1
          exact .inr ⟨j, b0, h3, h4, by rw [← hb, h5]⟩
        | none =>
          rw [h1] at hb
          cases h2 : lk (gone s.ids (encW r).2) id with
          | some b' =>
            rw [h2] at hb
            simp only [Option.none_or, Option.some_or, Option.some.injEq] at hb
            exact .inl (by rw [← hb]; exact (gone_dead (lk_mem h2)).1)
          | none =>
            rw [h2] at hb
            simp only [Option.none_or] at hb
            rcases hu with ⟨j, hj⟩ | ⟨hu1, hu2⟩
            · cases h3 : lk (encW r).2 j with
              | none =>
                have := lk_isSome (gone_mem hj h3)
                rw [h2] at this; cases this
              | some b0 =>
                have h4 : back s.ids base j = id := by unfold back; rw [hj]
                have := lk_backB_get (ids := s.ids) (base := base) h3 fun p hp he => by
                  obtain ⟨b1, hb1⟩ := Option.isSome_iff_exists.1 (lk_isSome hp)
                  exact hinj _ _ (hlt' _ _ hb1) (hlt' _ _ h3) he
                rw [h4, h1] at this; cases this
            · rw [hfr id hu1 hu2] at hb; cases hb
      have newOwn : ∀ id g, U id → owns st2 bl3 sv3 id g → ∃ j, owns (hst (encW r).2) bl2 sv2 j g ∧ back s.ids base j = id ∧ j < stride := by
        intro id g hu ho
        unfold owns at ho
        cases hb : st2.blk id with
        | none => simp [hb] at ho
        | some b =>
          rw [hb] at ho
          rcases isNew id b hu hb with rfl | ⟨j, b0, h3, h4, h5⟩
          · exact ho.elim
          · refine ⟨j, ?_, h4, hlt' j b0 h3⟩
            have h6 := bl3_back j (by rw [h3]; rfl)
            rw [h4] at h6
            unfold owns
            rw [show (hst (encW r).2).blk j = some b0 from h3]
            rw [h5] at ho
            cases b0 with
            | fix t cs => simp only [Blk.ren] at ho; rw [h6.1] at ho; exact ho
            | row e xs => simp only [Blk.ren] at ho; rw [h6.2] at ho; exact ho
            | lp k ls cs => simp only [Blk.ren] at ho; rw [h6.1] at ho; exact ho
            | dead => exact ho
            | mset ks => simp only [Blk.ren] at ho; rw [h6.1] at ho; exact ho
            | mrow e xs hole =>
              rcases hole with _ | ⟨i, p, s'⟩
              · simp only [Blk.ren] at ho; rw [h6.1, h6.2] at ho; exact ho
              · simp only [Blk.ren] at ho; rw [h6.1, h6.2] at ho; exact ho
      have how : s.lent = [] → ∀ g, (st2.cx P E fc bl3 sv3 w').ow g → ((hst (encW r).2).cx P E (inner m s H) bl2 sv2 w').ow g := by
        rintro hl g (⟨id, ho⟩ | hg)
        · by_cases hu : U id
          · obtain ⟨j, hj, _⟩ := newOwn id g hu ho
            exact .inl ⟨j, hj⟩
          · refine .inr (.inl ⟨id, ?_, fun j hj => hu (.inl ⟨j, hj⟩), by rw [hl]; simp⟩)
            unfold owns at ho ⊢
            rw [old id hu] at ho
            cases hb : st.blk id with
            | none => simp [hb] at ho
            | some b =>
              rw [hb] at ho
              have := bl3_old id (by rw [hb]; rfl)
              rw [this.1, this.2] at ho
              exact ho
        · exact .inr (.inr hg)
      have hro' : (∀ g, (st2.cx P E fc bl3 sv3 w').ow g → ((hst (encW r).2).cx P E (inner m s H) bl2 sv2 w').ow g) ∨ ((resAV (encW r).1).noRO 4 = true ∧ ∀ p ∈ (encW r).2, p.2.noRO E = true) := by
        split at hro
        · rename_i hl; exact .inl (how hl)
        · simp only [Bool.and_eq_true] at hro
          exact .inr ⟨hro.1, fun p hp => List.all_eq_true.1 hro.2 p hp⟩
      have hmv : ∀ id, ((hst (encW r).2).cx P E (inner m s H) bl2 sv2 w').lv id → (st2.cx P E fc bl3 sv3 w').lv (back s.ids base id) ∧ (st2.cx P E fc bl3 sv3 w').bl (back s.ids base id) = bl2 id ∧ (st2.cx P E fc bl3 sv3 w').sv (back s.ids base id) = sv2 id := by
        intro j hj
        have hj' : (lk (encW r).2 j).isSome = true := hj
        obtain ⟨b0, h3⟩ := Option.isSome_iff_exists.1 hj'
        refine ⟨?_, bl3_back j hj'⟩
        show (st2.blk (back s.ids base j)).isSome = true
        have := lk_backB_get (ids := s.ids) (base := base) h3 fun p hp he => by
          obtain ⟨b1, hb1⟩ := Option.isSome_iff_exists.1 (lk_isSome hp)
          exact hinj _ _ (hlt' _ _ hb1) (hlt' _ _ h3) he
        rw [upd, lk_append, this]
        rfl
      obtain ⟨mm, kk⟩ := MRel.change (drawn := m2.drawn) (st' := st2) (bl' := bl3) (sv' := sv3) (w' := w') m U m2.os m2.tape m2.output m2.grow
        (by
          intro g hg hn
          refine m2.frame g hg ?_
          rintro ⟨j, hj⟩
          obtain ⟨i, a1, a2⟩ := ok1 j g hj
          exact hn i (.inl ⟨j, a1⟩) a2)
        old
        (by
          intro id hid
          refine ⟨?_, bl3_old id hid⟩
          rw [upd]
          cases lk ((encW r).2.map (backB s.ids base) ++ gone s.ids (encW r).2) id <;> simp [hid])
        (by
          intro id g hu ho
          obtain ⟨j, hj, _⟩ := newOwn id g hu ho
          rcases m2.own j g hj with ⟨j', hj'⟩ | h'
          · obtain ⟨i, a1, a2⟩ := ok1 j' g hj'
            exact .inl ⟨i, .inl ⟨j', a1⟩, a2⟩
          · exact .inr h')
        (by
          intro id id' g hu hu' ho ho'
          obtain ⟨j, hj, e1, _⟩ := newOwn id g hu ho
          obtain ⟨j', hj', e2, _⟩ := newOwn id' g hu' ho'
          obtain rfl := m2.disj _ _ _ hj hj'
          exact e1.symm.trans e2)
        (by
          intro _ id b hu hb
          rcases isNew id b hu hb with rfl | ⟨j, b0, h3, h4, rfl⟩
          · trivial
          · have hok := m2.blks j b0 h3
            have h6 := bl3_back j (by rw [h3]; rfl)
            rw [h4] at h6
            cases b0 with
            | fix t cs =>
              obtain ⟨vs, hv, hrs⟩ := hok
              refine ⟨vs, ?_, by simpa using hrs.1, fun k hk => ?_⟩
              · show w'.heap[bl3 id]? = _
                rw [h6.1]; exact hv
              · have hk' : k < cs.length := by simpa using hk
                have := Rep.moved (c := (hst (encW r).2).cx P E (inner m s H) bl2 sv2 w') (c' := st2.cx P E fc bl3 sv3 w') hE rfl rfl rfl (back s.ids base) hmv (hrs.2 k hk') 4 4 (hro'.imp (fun h => h) fun h => by
                  have := h.2 _ (lk_mem h3)
                  simp only [Blk.noRO] at this
                  exact List.all_eq_true.1 this _ (List.getElem_mem hk'))
                simpa [Blk.ren] using this
            | row e xs =>
              obtain ⟨sz, vs, hsz, hown, hrs, hl⟩ := hok
              refine ⟨sz, vs, hsz, ?_, ⟨hrs.1, fun k hk => ?_⟩, hl⟩
              · show w'.ownsRow 0 e sz (sv3 id) xs.length vs
                rw [h6.2]; exact hown
              · have hk' : k < (xs.flatMap (E.enc e)).length := hk
                obtain ⟨x, _, hx⟩ := List.mem_flatMap.1 (List.getElem_mem hk')
                have := Rep.moved (c := (hst (encW r).2).cx P E (inner m s H) bl2 sv2 w') (c' := st2.cx P E fc bl3 sv3 w') hE rfl rfl rfl (back s.ids base) hmv (hrs.2 k hk') 4 4 (hro'.imp (fun h => h) fun h => by
                  have := h.2 _ (lk_mem h3)
                  simp only [Blk.noRO] at this
                  exact List.all_eq_true.1 (hE.plain e x this) _ hx)
                have hsh := shut_ren (back s.ids base) 4 _ (List.all_eq_true.1 (hE.shut e x) _ hx)
                have e1 : ((hst (encW r).2).cx P E (inner m s H) bl2 sv2 w').E = E := rfl
                simp only [e1] at this
                rw [hsh] at this
                exact this
            | lp k0 ls0 cs =>
              obtain ⟨vs, ps0, as0, bd0, D0, hv, hsite, hrs⟩ := hok
              refine ⟨vs, ps0, as0, bd0, D0, ?_, hsite, by simpa using hrs.1, fun k hk => ?_⟩
              · show w'.heap[bl3 id]? = _
                rw [h6.1]; exact hv
              · have hk' : k < cs.length := by simpa using hk
                have := Rep.moved (c := (hst (encW r).2).cx P E (inner m s H) bl2 sv2 w') (c' := st2.cx P E fc bl3 sv3 w') hE rfl rfl rfl (back s.ids base) hmv (hrs.2 k hk') 4 4 (hro'.imp (fun h => h) fun h => by
                  have := h.2 _ (lk_mem h3)
                  simp only [Blk.noRO] at this
                  exact List.all_eq_true.1 this _ (List.getElem_mem hk'))
                simpa [Blk.ren] using this
            | dead => trivial
            | mset ks =>
              obtain ⟨es, clock, hv, h7⟩ := hok
              refine ⟨es, clock, ?_, h7⟩
              show w'.heap[bl3 id]? = _
              rw [h6.1]; exact hv
            | mrow e xs hole =>
              have hsub : ∀ g, (st2.cx P E fc bl3 sv3 w').ow g → ((hst (encW r).2).cx P E (inner m s H) bl2 sv2 w').ow g := by
                rcases hro' with h | h
                · exact h
                · have := h.2 _ (lk_mem h3)
                  cases this
              obtain ⟨es, clock, hv, hz, h3e, h4e, h5e, h6e, h7e⟩ := hok
              have hren : Blk.ren (back s.ids base) (.mrow e xs hole) = .mrow e xs (hole.map fun q => (q.1, back s.ids base q.2.1, back s.ids base q.2.2)) := by
                rcases hole with _ | ⟨i, p, s'⟩ <;> rfl
              have hha : holeAt (hole.map fun q => (q.1, back s.ids base q.2.1, back s.ids base q.2.2)) = holeAt hole := by
                rcases hole with _ | ⟨i, p, s'⟩ <;> rfl
              rw [hren]
              have esv : (st2.cx P E fc bl3 sv3 w').sv id = ((hst (encW r).2).cx P E (inner m s H) bl2 sv2 w').sv j := h6.2
              have ebl : (st2.cx P E fc bl3 sv3 w').bl id = ((hst (encW r).2).cx P E (inner m s H) bl2 sv2 w').bl j := h6.1
              refine ⟨es, clock, by rw [ebl]; exact hv, hz, fun jj y hj => ?_, fun i p s2 hh => ?_, by rw [hha, esv]; exact h5e, by rw [hha, esv, ebl]; exact h6e, by rw [esv]; exact h7e⟩
              · obtain ⟨en, g1, g2, g3⟩ := h3e jj y hj
                refine ⟨en, g1, g2, fun hne => ?_⟩
                rw [hha] at hne
                obtain ⟨g, sl, q, vs, sz, us, r1, r2, r3, r4, r5, r6, r7, r8, r9, r10⟩ := g3 hne
                refine ⟨g, sl, q, vs, sz, us, by rw [esv]; exact r1, by rw [esv]; exact r2, r3, r4, r5, ?_, r7, r8, ?_, r10⟩
                · exact ⟨r6.1, fun jk hjk => (r6.2 jk hjk).less (c := (hst (encW r).2).cx P E (inner m s H) bl2 sv2 w') (c' := st2.cx P E fc bl3 sv3 w') hE rfl rfl rfl hsub 4 (splitRo_shut r4 (hE.shut e y.2) _ (List.getElem_mem hjk))⟩
                · refine ⟨r9.1, fun jk hjk => (r9.2 jk hjk).less (c := (hst (encW r).2).cx P E (inner m s H) bl2 sv2 w') (c' := st2.cx P E fc bl3 sv3 w') hE rfl rfl rfl hsub 4 ?_⟩
                  obtain ⟨x, _, hx⟩ := List.mem_flatMap.1 (List.getElem_mem hjk)
                  exact List.all_eq_true.1 (hE.shut q.e x) _ hx
              · obtain ⟨⟨i0, p0, s0⟩, hh0, hh1⟩ := Option.map_eq_some_iff.1 hh
                simp only [Prod.mk.injEq] at hh1
                obtain ⟨rfl, rfl, rfl⟩ := hh1
                obtain ⟨k1, k2, k3, en, k4, k5⟩ := h4e i0 p0 s0 hh0
                have ip := hmv p0 k2
                exact ⟨k1, ip.1, (hmv s0 k3).1, en, k4, by rw [ip.2.1]; exact k5⟩)
      exact ⟨bl3, sv3, mm, kk, Rep.moved (c := (hst (encW r).2).cx P E (inner m s H) bl2 sv2 w') (c' := st2.cx P E fc bl3 sv3 w') hE rfl rfl rfl (back s.ids base) hmv rep2 4 4 (hro'.imp (fun h => h) fun h => h.1)⟩
    · cases h2
  · cases h2
end
end Go.Proofs.Ytemdppcnhlnicaa.Ev
