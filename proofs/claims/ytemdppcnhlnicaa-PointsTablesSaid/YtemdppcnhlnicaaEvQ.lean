/- A state told anew is borne as well. -/
import Derived.Test.YtemdppcnhlnicaaEvP
set_option linter.unusedVariables false
set_option linter.unusedSimpArgs false
namespace Go.Proofs.Ytemdppcnhlnicaa.Ev
open Go Go.RowKit
variable {G : Nat → Type}

/-- Memory alone. -/
def hst (hp : List (Nat × Blk G)) : St G := { tmps := [], heap := hp, next := stride }

section
variable {P : Program} {E : Env G} {fc : FC} {bl : Nat → Nat} {sv : Nat → Value} {st : St G} {w : World}

theorem foot_reps (m : MRel P E fc bl sv st w) : ∀ (foot : List Pat) (fs : List (AV G)) (l : List Nat), (footQ foot : Q G _).trace st.blk = some (fs, l) → ∃ vals, vals.length = foot.length ∧ Reps (st.cx P E fc bl sv w) fs vals := by
  intro foot
  induction foot with
  | nil => intro fs l h; obtain rfl := ret_inv h; exact ⟨[], rfl, Reps.nil _⟩
  | cons p r ih =>
    intro fs l h
    cases p with
    | own j e =>
      have h1 := ask_inv h
      clear h
      obtain ⟨l1, h, -⟩ := h1
      split at h
      · rename_i e' xs hid
        obtain ⟨vs, l2, l3, h2, h3⟩ := bind_inv h
        obtain rfl := ret_inv h3
        obtain ⟨vals, hl, hr⟩ := ih _ _ h2
        obtain ⟨sz, us, hsz, ⟨_, hown⟩, _⟩ := m.blks j _ hid
        have hlv : (st.cx P E fc bl sv w).lv j := by show (st.blk j).isSome = true; rw [hid]; rfl
        rcases hown with ⟨hv, _⟩ | ⟨g, cap, cur, hv, _⟩
        · exact ⟨sv j :: vals, by simp [hl], Reps.cons (by have := Rep.osl j none 0 0 hlv hv; rw [show sv j = _ from hv]; exact this) hr⟩
        · exact ⟨sv j :: vals, by simp [hl], Reps.cons (by have := Rep.osl j _ _ _ hlv hv; rw [show sv j = _ from hv]; exact this) hr⟩
      · cases h
    | ptr j off t cs =>
      have h1 := ask_inv h
      clear h
      obtain ⟨l1, h, -⟩ := h1
      split at h
      · rename_i b hid
        obtain ⟨vs, l2, l3, h2, h3⟩ := bind_inv h
        obtain rfl := ret_inv h3
        obtain ⟨vals, hl, hr⟩ := ih _ _ h2
        have hlv : (st.cx P E fc bl sv w).lv j := by show (st.blk j).isSome = true; rw [hid]; rfl
        exact ⟨_ :: vals, by simp [hl], Reps.cons (Rep.ptr j off hlv) hr⟩
      · cases h
    | yld j key cs =>
      have h1 := ask_inv h
      clear h
      obtain ⟨l1, h, -⟩ := h1
      split at h
      · rename_i b hid
        obtain ⟨vs, l2, l3, h2, h3⟩ := bind_inv h
        obtain rfl := ret_inv h3
        obtain ⟨vals, hl, hr⟩ := ih _ _ h2
        have hlv : (st.cx P E fc bl sv w).lv j := by show (st.blk j).isSome = true; rw [hid]; rfl
        exact ⟨_ :: vals, by simp [hl], Reps.cons (Rep.yld j hlv) hr⟩
      · cases h
    | _ => cases h

theorem lent_owns {i g : Nat} (h : lentOf (st.cx P E fc bl sv w) st.blk i g) : owns st bl sv i g := by
  unfold lentOf at h
  unfold owns
  cases hb : st.blk i with
  | none => rw [hb] at h; exact h.elim
  | some b =>
    rw [hb] at h
    cases b <;> first | exact h | exact h.elim
theorem own_kind {s : CS G} {b : Blk G} {c : Cx G} (H : Inv c st.blk s) (hbl : c.bl = bl) (hsv : c.sv = sv) {t : St G} (ht : t.heap = s.hp) {j g : Nat} (ho : owns t (blT s.ids c.bl) (svT s.ids c.sv) j g) :
    ∃ i, lk s.ids j = some (some i) ∧ owns st bl sv i g := by
  unfold owns at ho
  have e : t.blk j = lk s.hp j := by unfold St.blk; rw [ht]
  rw [e] at ho
  cases hj : lk s.hp j with
  | none => simp [hj] at ho
  | some b =>
    rw [hj] at ho
    rcases H.kind j b hj with ⟨i, b', h1, h2, h3⟩ | ⟨h1, e, rfl⟩
    · refine ⟨i, h1, ?_⟩
      unfold owns
      rw [h2]
      cases b <;> cases b' <;> simp_all [sameKind, blT, svT]
    · simp [svT, h1, Value.ownBlock] at ho

theorem settled_inv {s : CS G} (h : settled s = true) : (∀ j x, lk s.ids j = some x → (lk s.hp j).isSome = true ∧ j < stride) ∧ ∀ i ∈ s.lent, taken i s.ids = false := by
  unfold settled at h
  split at h
  · rename_i h1
    refine ⟨fun j x hj => ?_, fun i hi => ?_⟩
    · have mem : ∀ (l : List (Nat × Option Nat)), lk l j = some x → (j, x) ∈ l := by
        intro l
        induction l with
        | nil => intro h; simp [lk] at h
        | cons p r ih =>
          obtain ⟨a, b⟩ := p
          intro h
          rw [lk_cons] at h
          split at h
          · rename_i hh; subst hh; simp only [Option.some.injEq] at h; subst h; exact List.mem_cons_self ..
          · exact List.mem_cons_of_mem _ (ih h)
      have := List.all_eq_true.1 h1 _ (mem _ hj)
      simp only [] at this
      split at this
      · rename_i b hb
        exact ⟨by rw [hb]; rfl, by simpa [Nat.blt_eq] using this⟩
      · cases this
    · have this : (match taken i s.ids with | true => false | false => true) = true := List.all_eq_true.1 h i hi
      split at this
      · cases this
      · assumption
  · cases h

theorem tell_ok (hE : EnvOk P E) (m : MRel P E fc bl sv st w) {R V : Type} {ps foot : List Pat} {dec : List (AV G) → List (Nat × Blk G) → Option V} {enc : V → List (AV G) × List (Nat × Blk G)} {K : V → Option R} {q : Q G (List (AV G))} {vals : List Value} {r : R}
    (hq : ∀ vs l, q.trace st.blk = some (vs, l) → Reps (st.cx P E fc bl sv w) vs vals) (hdec : ∀ as hp v, dec as hp = some v → enc v = (as, hp))
    (hfoot : ∀ j, fc.an j → ∃ p ∈ foot, footN p = j) (h : tellK P ps foot dec K q st.blk = some r) :
    ∃ v bl' sv', K v = some r ∧ (∀ j, (lk (enc v).2 j).isSome = true → j < stride) ∧ (∀ p ∈ foot, bl' (footN p) = bl (footN p) ∧ sv' (footN p) = sv (footN p)) ∧
      ∀ t : St G, t.heap = (enc v).2 → MRel P E fc bl' sv' t w ∧ Reps (t.cx P E fc bl' sv' w) (enc v).1 vals ∧ ∀ g, (t.cx P E fc bl' sv' w).ow g → (st.cx P E fc bl sv w).ow g := by
  unfold tellK at h
  rw [Q.run_eq] at h
  obtain ⟨⟨⟨as, s⟩, l⟩, htr, hk⟩ := Option.bind_eq_some_iff.1 h
  obtain ⟨vs, l1, l2, h1, h2⟩ := bind_inv htr
  obtain ⟨fs, l3, l4, h3, h4⟩ := bind_inv h2
  simp only [] at hk
  split at hk
  · rename_i v hset hft hde
    obtain ⟨fv, hfl, hfr⟩ := foot_reps m foot fs l3 h3
    have hr := hfr.append (hq vs l1 h1)
    obtain ⟨H, R⟩ := canonL_ok (c := st.cx P E fc bl sv w) hE (fun id b hb => m.blks id b hb) h4 hr
    obtain ⟨hs1, hs2⟩ := settled_inv hset
    have hhp : (enc v).2 = s.hp := by rw [hdec _ _ _ hde]
    have has : (enc v).1 = as.drop foot.length := by rw [hdec _ _ _ hde]
    have hft' : ∀ p ∈ foot, lk s.ids (footN p) = some (some (footN p)) := by
      intro p hp
      unfold footOk at hft
      have := List.all_eq_true.1 hft p hp
      split at this
      · rename_i i hi
        rw [hi, Nat.eq_of_beq_eq_true this]
      · cases this
    refine ⟨v, blT s.ids bl, svT s.ids sv, hk, ?_, ?_, ?_⟩
    · intro j hj
      rw [hhp] at hj
      obtain ⟨b, hb⟩ := Option.isSome_iff_exists.1 hj
      rcases H.kind j b hb with ⟨i, b', h1, _⟩ | ⟨h1, _⟩
      · exact (hs1 j _ h1).2
      · exact (hs1 j _ h1).2
    · intro p hp
      have := hft' p hp
      exact ⟨by unfold blT; rw [this], by unfold svT; rw [this]⟩
    · intro t ht
      rw [hhp] at ht
      have ok : ∀ j g, owns t (blT s.ids bl) (svT s.ids sv) j g → ∃ i, lk s.ids j = some (some i) ∧ owns st bl sv i g := fun j g ho => own_kind (b := .dead) H rfl rfl ht ho
      have hcx : cT (st.cx P E fc bl sv w) s.ids (t.cx P E fc (blT s.ids bl) (svT s.ids sv) w).ow = t.cx P E fc (blT s.ids bl) (svT s.ids sv) w := by
        have hlv : (fun j => (lk s.ids j).isSome = true) = fun j => (t.blk j).isSome = true := by
          funext j
          have e : t.blk j = lk s.hp j := by unfold St.blk; rw [ht]
          rw [e]
          apply propext
          constructor
          · intro hj
            obtain ⟨x, hx⟩ := Option.isSome_iff_exists.1 hj
            exact (hs1 j x hx).1
          · intro hj
            obtain ⟨b, hb⟩ := Option.isSome_iff_exists.1 hj
            rcases H.kind j b hb with ⟨i, b', h1, _⟩ | ⟨h1, _⟩ <;> rw [h1] <;> rfl
        unfold cT St.cx
        simp only [hlv]
      have hgo : GoodO (st.cx P E fc bl sv w) st.blk s (t.cx P E fc (blT s.ids bl) (svT s.ids sv) w).ow := by
        refine ⟨?_, ?_⟩
        · rintro g (⟨j, hj⟩ | hg)
          · obtain ⟨i, _, hi⟩ := ok j g hj
            exact .inl ⟨i, hi⟩
          · exact .inr hg
        · intro i hi g hg
          have hoi : owns st bl sv i g := lent_owns hg
          rintro (⟨j, hj⟩ | hg')
          · obtain ⟨i', h1, h2⟩ := ok j g hj
            obtain rfl := m.disj _ _ _ hoi h2
            exact taken_false (hs2 i hi) j h1
          · have := fc.calm g hg'
            rcases m.own i g hoi with h' | h'
            · exact this.2 h'
            · omega
      obtain ⟨R1, R2⟩ := R _ hgo
      rw [hcx] at R1 R2
      refine ⟨⟨?_, ?_, m.os, m.tape, m.output, m.grow, m.frame, ?_, ?_, m.drawn⟩, ?_, hgo.1⟩
      · intro j b hb
        exact R2 j b (by unfold St.blk at hb; rw [ht] at hb; exact hb)
      · intro j j' g h1 h2
        obtain ⟨i, a1, a2⟩ := ok j g h1
        obtain ⟨i', b1, b2⟩ := ok j' g h2
        obtain rfl := m.disj _ _ _ a2 b2
        exact H.inj _ _ _ a1 b1
      · intro j g ho
        obtain ⟨i, _, hi⟩ := ok j g ho
        exact m.own i g hi
      · intro j hj
        obtain ⟨p, hp, rfl⟩ := hfoot j hj
        have h1 := hft' p hp
        have h2 := m.anch _ hj
        refine ⟨?_, ?_, ?_⟩
        · have e : t.blk (footN p) = lk s.hp (footN p) := by unfold St.blk; rw [ht]
          rw [e]
          exact (hs1 _ _ h1).1
        · unfold blT; rw [h1]; exact h2.2.1
        · unfold svT; rw [h1]; exact h2.2.2
      · rw [has]
        have := R1.drop foot.length
        rw [show (fv ++ vals).drop foot.length = vals by rw [← hfl, List.drop_left]] at this
        exact this
  · cases hk
end
end Go.Proofs.Ytemdppcnhlnicaa.Ev
