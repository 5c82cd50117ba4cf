/- Code comes to what the evaluator tells. -/
import Derived.Test.YtneiaaalbpjgiaaEvN
set_option linter.unusedVariables false
set_option linter.unusedSimpArgs false
namespace Go.Proofs.Ytneiaaalbpjgiaa.Ev
open Go Go.RowKit
variable {G : Nat → Type}
section
variable {P : Program} {E : Env G} {C : Oracle G} {nt : Nat} {fc : FC}

/-- No block beyond the next number. -/
def StOk (st : St G) : Prop := ∀ id, st.next ≤ id → st.blk id = none

theorem numb_map : ∀ (ops : List Oper) (i : Nat), (numb ops i).map (·.1) = List.range' i ops.length := by
  intro ops
  induction ops with
  | nil => intro i; rfl
  | cons o ops ih => intro i; simp only [numb, List.map_cons, ih, List.length_cons, List.range'_succ]

/-- A state, as the machine bears it. -/
def Bears (P : Program) (E : Env G) (fc : FC) (st : St G) (a : Act) (w : World) : Prop := StOk st ∧ ∃ bl sv, Rel P E fc bl sv st a w

/-- From here the machine comes to a return whose state is one of which 'fin' tells r. -/
def Good (P : Program) (E : Env G) (fc : FC) {R : Type} (fin : St G → Option R) (td : List Item) (st : St G) (r : R) : Prop :=
  ∀ (b : Frame) (cs : List Frame) (a : Act) (w : World), Bears P E fc st a w →
    ∃ a' w' st' todo, fin st' = some r ∧ Bears P E fc st' a' w' ∧ Steps P (lone (b.at a td) cs w) (lone { b.at a' todo with mode := .returning } cs w')

theorem region_ok (hE : EnvOk P E) (hC : OracleOk P E C) (hmix : P.follows .mixedOrders = true) (hnt : fc.nt = nt) {R : Type} {fin : St G → Option R} {id : Nat} {ops : Array Oper} {draw : Bool} {k : List Item} {st : St G} {r : R} {go : List Item → St G → Option R}
    (h : evR P E C nt go ops draw k st = some r) (hgo : ∀ st' r', go k st' = some r' → Good P E fc fin k st' r') : Good P E fc fin (.code (.region id ops draw) :: k) st r := by
  unfold evR at h
  rw [regionK_eq] at h
  obtain ⟨⟨t, m⟩, hrun, h⟩ := Option.bind_eq_some_iff.1 h
  obtain ⟨X, hX, m', hm, _, hk⟩ := runX_of_runM _ _ _ _ _ _ hrun
  rw [List.append_nil] at hm
  subst hm
  have hgo' : (draw = true → freeOrder ops.toList m = true) ∧ go k { t with next := st.next + stride * ops.size } = some r := by
    cases draw with
    | false => exact ⟨fun e => (by cases e), h⟩
    | true =>
      simp only [] at h
      split at h
      · rename_i hf; exact ⟨fun _ => hf, h⟩
      · cases h
  obtain ⟨hfree, hgo2⟩ := hgo'
  intro b cs a w hb
  obtain ⟨hok, bl, sv, hR⟩ := hb
  have hlen : ops.toList.length = ops.size := by simp
  have hmem : ∀ p ∈ numb ops.toList 0, ops[p.1]? = some p.2 := fun p hp => by have := (numb_mem _ _ p hp).2.2; simpa using this
  have hidx : ∀ p ∈ numb ops.toList 0, p.1 < ops.size := fun p hp => by have := (numb_mem _ _ p hp).2.1; simpa using this
  have hfr : ∀ p ∈ numb ops.toList 0, Fresh st (st.next + stride * p.1) := fun p hp i h1 h2 => hok i (by omega)
  have htok : StOk { t with next := st.next + stride * ops.size } := by
    intro i hi
    have hi' : st.next + stride * ops.size ≤ i := hi
    have : t.blk i = none := hX.new i (hok i (by omega)) fun p hp hh => by
      have := hidx p hp
      unfold stride at *
      omega
    exact this
  let Q : Exit → Act → World → Prop := fun e a' w' => e = .normal ∧ Bears P E fc { t with next := st.next + stride * ops.size } a' w'
  have hQ : ∀ a' w' bl' sv', Rel P E fc bl' sv' t a' w' → Q .normal a' w' := fun a' w' bl' sv' h' => ⟨rfl, htok, bl', sv', SEq.rel (s := t) (t := { t with next := st.next + stride * ops.size }) ⟨fun _ => rfl, fun _ => rfl⟩ h'⟩
  have hwp : (Code.region id ops draw).wp P Q a w := by
    cases draw with
    | false =>
      refine wp_region ?_
      have := wpOps_text (base := st.next) hE hC hnt rfl hQ (numb ops.toList 0) st a w bl sv hmem (by rw [numb_map]; exact List.nodup_range') hX hR hfr
      rw [numb_map, hlen] at this
      rw [List.range_eq_range']
      exact this
    | true =>
      refine wp_region_any hmix ?_
      have hnone : ∀ k, isL (Array.replicate ops.size false) k = false := by
        intro k
        unfold isL
        rw [Array.getD_eq_getD_getElem?, Array.getElem?_replicate]
        split <;> rfl
      have hUL : UL ops.toList (Array.replicate ops.size false) = numb ops.toList 0 := by
        unfold UL
        rw [List.filter_eq_self]
        intro p _
        simp [hnone]
      have hR' : Rel P E fc bl sv st a { w with drawn := w.drawn + 1 } := by
        have hk : Keeps (st.cx P E fc bl sv w) (st.cx P E fc bl sv { w with drawn := w.drawn + 1 }) := ⟨rfl, rfl, Nat.le_refl _, fun _ _ h => ⟨rfl, h⟩, fun _ h => ⟨h, rfl, rfl⟩⟩
        refine ⟨⟨fun i bk hbk => ?_, hR.m.disj, hR.m.os, hR.m.tape, hR.m.output, hR.m.grow, hR.m.frame, hR.m.own, hR.m.anch⟩, hR.defers, hR.size, fun d => (hR.tmps d).keep hk⟩
        have := hR.m.blks i bk hbk
        cases bk with
        | fix t cs => obtain ⟨vs, h1, h2⟩ := this; exact ⟨vs, h1, h2.keep hk⟩
        | row e xs => obtain ⟨sz, vs, h1, h2, h3, h4⟩ := this; exact ⟨sz, vs, h1, h2, h3.keep hk, h4⟩
        | dead => trivial
      exact wpAny_run (log := m) hE hC hnt rfl (hfree rfl) (fun k' hk' => hk k' (Nat.zero_le _) (by omega)) hQ ops.size (Array.replicate ops.size false) st a _ bl sv (by simp) (fun k' o' _ hl => by rw [hnone] at hl; cases hl)
        (by rw [hUL]; have := congrArg List.length (numb_map ops.toList 0); simpa using this) (by rw [hUL]; exact hX) hR' (by rw [hUL]; exact hfr)
  obtain ⟨e, a1, w1, ⟨rfl, hb1⟩, harr⟩ := hwp b k cs
  obtain ⟨a2, w2, st2, todo, hf2, hb2, hs2⟩ := hgo _ _ hgo2 b cs a1 w1 hb1
  exact ⟨a2, w2, st2, todo, hf2, hb2, Steps.trans harr hs2⟩

/-! ### Places of regions -/
def cutsT : List Item → List (Nat × List Item)
  | [] => []
  | .code c :: k => cutsC c k ++ cutsT k
  | .inLoop c :: k => cutsC c (.inLoop c :: k) ++ cutsT k
  | .inScope c :: k => cutsC c (.inScope c :: k) ++ cutsT k
  | _ :: k => cutsT k

theorem cuts_exit {id : Nat} : ∀ (k k' : List Item), exitTo id k = some k' → ∀ p ∈ cutsT k', p ∈ cutsT k := by
  intro k
  induction k with
  | nil => intro k' h; simp [exitTo] at h
  | cons x k ih =>
    intro k' h p hp
    cases x with
    | inBlock id' =>
      simp only [exitTo] at h
      split at h
      · obtain rfl := Option.some.inj h; exact hp
      · exact ih k' h p hp
    | _ =>
      simp only [exitTo] at h
      have := ih k' h p hp
      simp only [cutsT]
      first | exact List.mem_append.2 (.inr this) | exact this
theorem cuts_label {l : Nat} : ∀ (c c' : Code), findLabel c l = some c' → ∀ k, ∀ p ∈ cutsC c' k, p ∈ cutsC c k := by
  intro c
  induction c with
  | seq a b iha ihb =>
    intro c' h k p hp
    simp only [findLabel] at h
    split at h
    · rename_i rest hr
      obtain rfl := Option.some.inj h
      simp only [cutsC] at hp ⊢
      rcases List.mem_append.1 hp with hp | hp
      · exact List.mem_append.2 (.inl (iha _ hr _ p hp))
      · exact List.mem_append.2 (.inr hp)
    · simp only [cutsC]
      exact List.mem_append.2 (.inr (ihb _ h k p hp))
  | label l' =>
    intro c' h k p hp
    simp only [findLabel] at h
    split at h
    · obtain rfl := Option.some.inj h; cases hp
    · cases h
  | _ => intro c' h; simp [findLabel] at h
theorem cuts_goto {l : Nat} : ∀ (k k' : List Item), gotoIn l k = some k' → ∀ p ∈ cutsT k', p ∈ cutsT k := by
  intro k
  induction k with
  | nil => intro k' h; simp [gotoIn] at h
  | cons x k ih =>
    intro k' h p hp
    cases x with
    | inScope body =>
      simp only [gotoIn] at h
      split at h
      · rename_i rest hr
        obtain rfl := Option.some.inj h
        simp only [cutsT] at hp ⊢
        rcases List.mem_append.1 hp with hp | hp
        · exact List.mem_append.2 (.inl (cuts_label _ _ hr _ p hp))
        · exact hp
      · have := ih k' h p hp
        simp only [cutsT]
        exact List.mem_append.2 (.inr this)
    | _ =>
      simp only [gotoIn] at h
      have := ih k' h p hp
      simp only [cutsT]
      first | exact List.mem_append.2 (.inr this) | exact this

/-- What is known of the cuts. -/
def CutsOk (P : Program) (E : Env G) (fc : FC) {R : Type} (fin : St G → Option R) (cut : Nat → Bool) (L : Nat → St G → Option R) (S : List (Nat × List Item)) : Prop :=
  ∀ p ∈ S, cut p.1 = true → ∀ st r, L p.1 st = some r → Good P E fc fin p.2 st r

theorem Good.step {R : Type} {fin : St G → Option R} {td td' : List Item} {st : St G} {r : R} (h : Good P E fc fin td' st r) (hs : ∀ (b : Frame) (cs : List Frame) (a : Act) (w : World), Bears P E fc st a w → step P (lone (b.at a td) cs w) = .next (lone (b.at a td') cs w)) : Good P E fc fin td st r := by
  intro b cs a w hb
  obtain ⟨a', w', st', todo, h1, h2, h3⟩ := h b cs a w hb
  exact ⟨a', w', st', todo, h1, h2, .head (hs b cs a w hb) h3⟩

theorem ev_ok (hE : EnvOk P E) (hC : OracleOk P E C) (hmix : P.follows .mixedOrders = true) (hnt : fc.nt = nt) {R : Type} {fin : St G → Option R} {cut : Nat → Bool} {L : Nat → St G → Option R} :
    ∀ (n : Nat) (td : List Item) (st : St G) (r : R), CutsOk P E fc fin cut L (cutsT td) → ev P E C nt cut L fin n td st = some r → Good P E fc fin td st r := by
  intro n
  induction n with
  | zero => intro td st r _ h; cases h
  | succ n ih =>
    intro td st r hcut h
    cases td with
    | nil =>
      simp only [ev] at h
      intro b cs a w hb
      exact ⟨a, w, st, [], h, hb, .one step_end⟩
    | cons x k =>
      cases x with
      | code c =>
        cases c with
        | ret =>
          simp only [ev] at h
          intro b cs a w hb
          exact ⟨a, w, st, _, h, hb, .one step_ret⟩
        | skip =>
          simp only [ev] at h
          exact (ih k st r (fun p hp => hcut p (by simp only [cutsT, cutsC, List.nil_append]; exact hp)) h).step fun b cs a w _ => step_skip
        | label l =>
          simp only [ev] at h
          exact (ih k st r (fun p hp => hcut p (by simp only [cutsT, cutsC, List.nil_append]; exact hp)) h).step fun b cs a w _ => step_label
        | seq c1 c2 =>
          simp only [ev] at h
          exact (ih _ st r (fun p hp => hcut p (by simpa only [cutsT, cutsC, List.append_assoc] using hp)) h).step fun b cs a w _ => step_seq
        | cond c1 c2 c3 =>
          simp only [ev] at h
          split at h
          · rename_i t ht
            have hv : ∀ (a : Act) (w : World), Bears P E fc st a w → a.eval c1 = .bool t := by
              rintro a w ⟨_, bl, sv, hR⟩
              have := hR.eval c1
              rw [ht] at this
              exact this.bool_inv
            split at h
            · exact (ih _ st r (fun p hp => hcut p (by
                simp only [cutsT, cutsC, List.mem_append] at hp ⊢
                rcases hp with hp | hp
                · exact .inl (.inl hp)
                · exact .inr hp)) h).step fun b cs a w hb => by
                  have := step_cond (P := P) (b := b) (k := k) (cs := cs) (w := w) (x := c2) (y := c3) (hv a w hb)
                  simpa using this
            · exact (ih _ st r (fun p hp => hcut p (by
                simp only [cutsT, cutsC, List.mem_append] at hp ⊢
                rcases hp with hp | hp
                · exact .inl (.inr hp)
                · exact .inr hp)) h).step fun b cs a w hb => by
                  have := step_cond (P := P) (b := b) (k := k) (cs := cs) (w := w) (x := c2) (y := c3) (hv a w hb)
                  simpa using this
          · cases h
        | block id c1 =>
          simp only [ev] at h
          exact (ih _ st r (fun p hp => hcut p (by simpa only [cutsT, cutsC] using hp)) h).step fun b cs a w _ => step_block
        | loop c1 =>
          simp only [ev] at h
          exact (ih _ st r (fun p hp => hcut p (by
            simp only [cutsT, cutsC, List.mem_append] at hp ⊢
            rcases hp with hp | hp | hp
            · exact .inl hp
            · exact .inl hp
            · exact .inr hp)) h).step fun b cs a w _ => step_loop
        | scope c1 =>
          simp only [ev] at h
          exact (ih _ st r (fun p hp => hcut p (by
            simp only [cutsT, cutsC, List.mem_append] at hp ⊢
            rcases hp with hp | hp | hp
            · exact .inl hp
            · exact .inl hp
            · exact .inr hp)) h).step fun b cs a w _ => step_lone_go (by simp [stepG, stepG.exec, Frame.at])
        | exit id =>
          simp only [ev] at h
          split at h
          · rename_i k' hk
            exact (ih _ st r (fun p hp => hcut p (by simp only [cutsT, cutsC, List.nil_append]; exact cuts_exit k k' hk p hp)) h).step fun b cs a w _ => step_exit hk
          · cases h
        | goto l =>
          simp only [ev] at h
          split at h
          · rename_i k' hk
            exact (ih _ st r (fun p hp => hcut p (by simp only [cutsT, cutsC, List.nil_append]; exact cuts_goto k k' hk p hp)) h).step fun b cs a w _ => step_goto hk
          · cases h
        | region id ops draw =>
          simp only [ev] at h
          split at h
          · rename_i hc
            exact hcut (id, .code (.region id ops draw) :: k) (by simp [cutsT, cutsC]) hc st r h
          · exact region_ok hE hC hmix hnt h fun st' r' h' => ih k st' r' (fun p hp => hcut p (by simp only [cutsT, List.mem_append]; exact .inr hp)) h'
        | rangeFunc f ps as bd => simp [ev] at h
        | refuse s => simp [ev] at h
      | inBlock id =>
        simp only [ev] at h
        exact (ih k st r (fun p hp => hcut p (by simpa only [cutsT] using hp)) h).step fun b cs a w _ => step_inBlock
      | inLoop c =>
        simp only [ev] at h
        exact (ih _ st r (fun p hp => hcut p (by
          simp only [cutsT, List.mem_append] at hp ⊢
          rcases hp with hp | hp | hp
          · exact .inl hp
          · exact .inl hp
          · exact .inr hp)) h).step fun b cs a w _ => step_inLoop
      | inScope c =>
        simp only [ev] at h
        exact (ih k st r (fun p hp => hcut p (by simp only [cutsT, List.mem_append]; exact .inr hp)) h).step fun b cs a w _ => step_lone_go (by simp [stepG, stepG.exec, Frame.at])
      | _ => simp [ev] at h

theorem evCut_ok (hE : EnvOk P E) (hC : OracleOk P E C) (hmix : P.follows .mixedOrders = true) (hnt : fc.nt = nt) {R : Type} {fin : St G → Option R} {cut : Nat → Bool} {L : Nat → St G → Option R} {n : Nat} {td : List Item} {st : St G} {r : R}
    (hcut : CutsOk P E fc fin cut L (cutsT td)) (h : evCut P E C nt cut L fin n td st = some r) : Good P E fc fin td st r := by
  unfold evCut at h
  split at h
  · rename_i id ops draw k
    exact region_ok hE hC hmix hnt h fun st' r' h' => ev_ok hE hC hmix hnt n k st' r' (fun p hp => hcut p (by simp only [cutsT, List.mem_append]; exact .inr hp)) h'
  · cases h
end
end Go.Proofs.Ytneiaaalbpjgiaa.Ev
