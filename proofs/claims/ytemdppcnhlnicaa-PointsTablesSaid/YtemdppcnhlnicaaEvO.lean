/- Code comes to what the evaluator tells. -/
import Derived.Test.YtemdppcnhlnicaaEvY
set_option linter.unusedVariables false
set_option linter.unusedSimpArgs false
namespace Go.Proofs.Ytemdppcnhlnicaa.Ev
open Go Go.RowKit
variable {G : Nat → Type}
section
variable {P : Program} {E : Env G} {C : Oracle G} {nt : Nat} {fc : FC}

/-- No block beyond the next number. -/
def StOk (st : St G) : Prop := ∀ id, st.next ≤ id → st.blk id = none

theorem numb_map : ∀ (ops : List Oper) (i : Nat), (numb ops i).map (·.1) = List.range' i ops.length := by
  intro ops
  induction ops with
  | nil => intro i; rfl
  | cons o ops ih => intro i; simp only [numb, List.map_cons, ih, List.length_cons, List.range'_succ]

/-- A state, as the machine bears it. -/
def Bears (P : Program) (E : Env G) (fc : FC) (st : St G) (a : Act) (w : World) : Prop := StOk st ∧ ∃ bl sv, Rel P E fc bl sv st a w

/-- How code ends: off its end, or by a jump that nothing in the frame catches. -/
def Ends : Option Code → List Item → Prop
  | none, td => td = []
  | some .ret, td => ∃ k, td = .code .ret :: k
  | some (.exit id), td => ∃ k, td = .code (.exit id) :: k ∧ exitTo id k = none
  | some (.goto l), td => ∃ k, td = .code (.goto l) :: k ∧ gotoIn l k = none
  | _, _ => False
/-- In a round the loop's record is block 0. -/
def ROk (fc : FC) (ro : Option Nat) : Prop := ∀ l, ro = some l → fc.an 0 ∧ fc.bl0 0 = l
/-- No round begins here. -/
def noBR : List Item → Bool
  | [] => true
  | .beginRound :: _ => false
  | .code _ :: k => noBR k
  | .inBlock _ :: k => noBR k
  | .inLoop _ :: k => noBR k
  | .inScope _ :: k => noBR k
  | _ :: k => noBR k
/-- From here the machine comes to an end of which 'fin' tells r. -/
def Good (P : Program) (E : Env G) (fc : FC) (ro : Option Nat) (fid : Nat) {R : Type} (fin : Option Code → St G → Option R) (td : List Item) (st : St G) (r : R) : Prop :=
  (ro = none → noBR td = true) → ∀ (b : Frame) (cs : List Frame) (a : Act) (w : World), b.roundOf = ro → b.fn = fid → Bears P E fc st a w →
    ∃ a' w' st' todo j, fin j st' = some r ∧ Ends j todo ∧ Bears P E fc st' a' w' ∧ Steps P (lone (b.atR a td) cs w) (lone (b.atR a' todo) cs w')

theorem region_ok (hE : EnvOk P E) (hC : OracleOk P E C) (hmix : P.follows .mixedOrders = true) (hnt : fc.nt = nt) {R : Type} {ro : Option Nat} {fid : Nat} {fin : Option Code → St G → Option R} {id : Nat} {ops : Array Oper} {draw : Bool} {k : List Item} {st : St G} {r : R} {go : List Item → St G → Option R}
    (h : evR P E C nt go ops draw k st = some r) (hgo : ∀ st' r', go k st' = some r' → Good P E fc ro fid fin k st' r') : Good P E fc ro fid fin (.code (.region id ops draw) :: k) st r := by
  unfold evR at h
  rw [regionK_eq] at h
  obtain ⟨⟨t, m⟩, hrun, h⟩ := Option.bind_eq_some_iff.1 h
  obtain ⟨X, hX, m', hm, _, hk⟩ := runX_of_runM _ _ _ _ _ _ hrun
  rw [List.append_nil] at hm
  subst hm
  have hgo' : (draw = true → freeOrder ops.toList m = true) ∧ go k { t with next := st.next + stride * ops.size } = some r := by
    cases draw with
    | false => exact ⟨fun e => (by cases e), h⟩
    | true =>
      simp only [] at h
      split at h
      · rename_i hf; exact ⟨fun _ => hf, h⟩
      · cases h
  obtain ⟨hfree, hgo2⟩ := hgo'
  intro hn b cs a w hro hfn hb
  obtain ⟨hok, bl, sv, hR⟩ := hb
  have hlen : ops.toList.length = ops.size := by simp
  have hmem : ∀ p ∈ numb ops.toList 0, ops[p.1]? = some p.2 := fun p hp => by have := (numb_mem _ _ p hp).2.2; simpa using this
  have hidx : ∀ p ∈ numb ops.toList 0, p.1 < ops.size := fun p hp => by have := (numb_mem _ _ p hp).2.1; simpa using this
  have hfr : ∀ p ∈ numb ops.toList 0, Fresh st (st.next + stride * p.1) := fun p hp i h1 h2 => hok i (by omega)
  have htok : StOk { t with next := st.next + stride * ops.size } := by
    intro i hi
    have hi' : st.next + stride * ops.size ≤ i := hi
    have : t.blk i = none := hX.new i (hok i (by omega)) fun p hp hh => by
      have := hidx p hp
      unfold stride at *
      omega
    exact this
  let Q : Exit → Act → World → Prop := fun e a' w' => e = .normal ∧ Bears P E fc { t with next := st.next + stride * ops.size } a' w'
  have hQ : ∀ a' w' bl' sv', Rel P E fc bl' sv' t a' w' → Q .normal a' w' := fun a' w' bl' sv' h' => ⟨rfl, htok, bl', sv', SEq.rel (s := t) (t := { t with next := st.next + stride * ops.size }) ⟨fun _ => rfl, fun _ => rfl⟩ h'⟩
  have hwp : (Code.region id ops draw).wpIn (WF ro) 0 P Q a w := by
    cases draw with
    | false =>
      refine wpIn_region ?_
      have := wpOps_text (base := st.next) (ro := ro) (n := 0) hE hC hnt rfl hQ (numb ops.toList 0) st a w bl sv hmem (by rw [numb_map]; exact List.nodup_range') hX hR hfr
      rw [numb_map, hlen] at this
      rw [List.range_eq_range']
      exact this
    | true =>
      refine wpIn_region_any hmix ?_
      have hnone : ∀ k, isL (Array.replicate ops.size false) k = false := by
        intro k
        unfold isL
        rw [Array.getD_eq_getD_getElem?, Array.getElem?_replicate]
        split <;> rfl
      have hUL : UL ops.toList (Array.replicate ops.size false) = numb ops.toList 0 := by
        unfold UL
        rw [List.filter_eq_self]
        intro p _
        simp [hnone]
      have hR' : Rel P E fc bl sv st a { w with drawn := w.drawn + 1 } := by
        have hk : Keeps (st.cx P E fc bl sv w) (st.cx P E fc bl sv { w with drawn := w.drawn + 1 }) := ⟨rfl, rfl, Nat.le_refl _, fun _ _ h => ⟨rfl, h⟩, fun _ h => ⟨h, rfl, rfl⟩⟩
        refine ⟨⟨fun i bk hbk => ?_, hR.m.disj, hR.m.os, hR.m.tape, hR.m.output, hR.m.grow, hR.m.frame, hR.m.own, hR.m.anch, Nat.le_succ_of_le hR.m.drawn⟩, hR.marks, hR.size, fun d => (hR.tmps d).keep hk⟩
        have := hR.m.blks i bk hbk
        cases bk with
        | fix t cs => obtain ⟨vs, h1, h2⟩ := this; exact ⟨vs, h1, h2.keep hk⟩
        | row e xs => obtain ⟨sz, vs, h1, h2, h3, h4⟩ := this; exact ⟨sz, vs, h1, h2, h3.keep hk, h4⟩
        | lp key ls cs => obtain ⟨vs, ps, as, bd, D, h1, h2, h3⟩ := this; exact ⟨vs, ps, as, bd, D, h1, h2, h3.keep hk⟩
        | dead => trivial
        | mset ks => exact BlkOk.keepS (c' := st.cx P E fc bl sv { w with drawn := w.drawn + 1 }) hk.toS (fun _ => rfl) (by show (st.blk i).isSome = true; rw [hbk]; rfl) rfl this
        | mrow e xs h => exact BlkOk.keepS (c' := st.cx P E fc bl sv { w with drawn := w.drawn + 1 }) hk.toS (fun _ => rfl) (by show (st.blk i).isSome = true; rw [hbk]; rfl) rfl this
      exact wpAny_run (log := m) hE hC hnt rfl (hfree rfl) (fun k' hk' => hk k' (Nat.zero_le _) (by omega)) hQ ops.size (Array.replicate ops.size false) st a _ bl sv (by simp) (fun k' o' _ hl => by rw [hnone] at hl; cases hl)
        (by rw [hUL]; have := congrArg List.length (numb_map ops.toList 0); simpa using this) (by rw [hUL]; exact hX) hR' (by rw [hUL]; exact hfr)
  obtain ⟨e, a1, w1, ⟨rfl, hb1⟩, harr⟩ := hwp b k cs hro trivial (room_wide _)
  obtain ⟨a2, w2, st2, todo, j, hf2, he2, hb2, hs2⟩ := hgo _ _ hgo2 (fun e => by simpa only [noBR] using hn e) b cs a1 w1 hro hfn hb1
  exact ⟨a2, w2, st2, todo, j, hf2, he2, hb2, Steps.trans (stepsWF.1 harr) hs2⟩

/-! ### Places of regions -/
def cutsT : List Item → List (Nat × List Item)
  | [] => []
  | .code c :: k => cutsC c k ++ cutsT k
  | .inLoop c :: k => cutsC c (.inLoop c :: k) ++ cutsT k
  | .inScope c :: k => cutsC c (.inScope c :: k) ++ cutsT k
  | _ :: k => cutsT k

theorem cuts_exit {id : Nat} : ∀ (k k' : List Item), exitTo id k = some k' → ∀ p ∈ cutsT k', p ∈ cutsT k := by
  intro k
  induction k with
  | nil => intro k' h; simp [exitTo] at h
  | cons x k ih =>
    intro k' h p hp
    cases x with
    | inBlock id' =>
      simp only [exitTo] at h
      split at h
      · obtain rfl := Option.some.inj h; exact hp
      · exact ih k' h p hp
    | _ =>
      simp only [exitTo] at h
      have := ih k' h p hp
      simp only [cutsT]
      first | exact List.mem_append.2 (.inr this) | exact this
theorem cuts_label {l : Nat} : ∀ (c c' : Code), findLabel c l = some c' → ∀ k, ∀ p ∈ cutsC c' k, p ∈ cutsC c k := by
  intro c
  induction c with
  | seq a b iha ihb =>
    intro c' h k p hp
    simp only [findLabel] at h
    split at h
    · rename_i rest hr
      obtain rfl := Option.some.inj h
      simp only [cutsC] at hp ⊢
      rcases List.mem_append.1 hp with hp | hp
      · exact List.mem_append.2 (.inl (iha _ hr _ p hp))
      · exact List.mem_append.2 (.inr hp)
    · simp only [cutsC]
      exact List.mem_append.2 (.inr (ihb _ h k p hp))
  | label l' =>
    intro c' h k p hp
    simp only [findLabel] at h
    split at h
    · obtain rfl := Option.some.inj h; cases hp
    · cases h
  | _ => intro c' h; simp [findLabel] at h
theorem cuts_goto {l : Nat} : ∀ (k k' : List Item), gotoIn l k = some k' → ∀ p ∈ cutsT k', p ∈ cutsT k := by
  intro k
  induction k with
  | nil => intro k' h; simp [gotoIn] at h
  | cons x k ih =>
    intro k' h p hp
    cases x with
    | inScope body =>
      simp only [gotoIn] at h
      split at h
      · rename_i rest hr
        obtain rfl := Option.some.inj h
        simp only [cutsT] at hp ⊢
        rcases List.mem_append.1 hp with hp | hp
        · exact List.mem_append.2 (.inl (cuts_label _ _ hr _ p hp))
        · exact hp
      · have := ih k' h p hp
        simp only [cutsT]
        exact List.mem_append.2 (.inr this)
    | _ =>
      simp only [gotoIn] at h
      have := ih k' h p hp
      simp only [cutsT]
      first | exact List.mem_append.2 (.inr this) | exact this

theorem br_exit {id : Nat} : ∀ (k k' : List Item), exitTo id k = some k' → noBR (.code (.exit id) :: k) = true → noBR k' = true := by
  intro k
  induction k with
  | nil => intro k' h; simp [exitTo] at h
  | cons x k ih =>
    intro k' h hn
    cases x with
    | inBlock id' =>
      simp only [exitTo] at h
      simp only [noBR] at hn
      split at h
      · obtain rfl := Option.some.inj h; exact hn
      · exact ih k' h (by simpa only [noBR] using hn)
    | _ =>
      simp only [exitTo] at h
      simp only [noBR] at hn
      first | (cases hn; done) | exact ih k' h (by simpa only [noBR] using hn)
theorem br_goto {l : Nat} : ∀ (k k' : List Item), gotoIn l k = some k' → noBR (.code (.goto l) :: k) = true → noBR k' = true := by
  intro k
  induction k with
  | nil => intro k' h; simp [gotoIn] at h
  | cons x k ih =>
    intro k' h hn
    cases x with
    | inScope body =>
      simp only [gotoIn] at h
      simp only [noBR] at hn
      split at h
      · obtain rfl := Option.some.inj h
        simpa only [noBR] using hn
      · exact ih k' h (by simpa only [noBR] using hn)
    | _ =>
      simp only [gotoIn] at h
      simp only [noBR] at hn
      first | (cases hn; done) | exact ih k' h (by simpa only [noBR] using hn)

/-- What is known of the cuts. -/
def CutsOk (P : Program) (E : Env G) (fc : FC) (ro : Option Nat) (fid : Nat) {R : Type} (fin : Option Code → St G → Option R) (cut : Nat → Bool) (L : Nat → St G → Option R) (S : List (Nat × List Item)) : Prop :=
  ∀ p ∈ S, cut p.1 = true → ∀ st r, L p.1 st = some r → Good P E fc ro fid fin p.2 st r

theorem Good.step {R : Type} {ro : Option Nat} {fid : Nat} {fin : Option Code → St G → Option R} {td td' : List Item} {st : St G} {r : R} (h : Good P E fc ro fid fin td' st r) (hs : ∀ (b : Frame) (cs : List Frame) (a : Act) (w : World), b.roundOf = ro → Bears P E fc st a w → step P (lone (b.atR a td) cs w) = .next (lone (b.atR a td') cs w)) (hn' : noBR td = true → noBR td' = true := by intro h; simpa only [noBR] using h) : Good P E fc ro fid fin td st r := by
  intro hn b cs a w hro hfn hb
  obtain ⟨a', w', st', todo, j, h1, h2, h3, h4⟩ := h (fun e => hn' (hn e)) b cs a w hro hfn hb
  exact ⟨a', w', st', todo, j, h1, h2, h3, .head (hs b cs a w hro hb) h4⟩

theorem ev_ok (hE : EnvOk P E) (hC : OracleOk P E C) (hmix : P.follows .mixedOrders = true) (hnt : fc.nt = nt) {R : Type} {ro : Option Nat} (hro : ROk fc ro) {fid : Nat} {fin : Option Code → St G → Option R} {cut : Nat → Bool} {L : Nat → St G → Option R} :
    ∀ (n : Nat) (td : List Item) (st : St G) (r : R), CutsOk P E fc ro fid fin cut L (cutsT td) → ev P E C nt cut L fin n td st = some r → Good P E fc ro fid fin td st r := by
  intro n
  induction n with
  | zero => intro td st r _ h; cases h
  | succ n ih =>
    intro td st r hcut h
    cases td with
    | nil =>
      simp only [ev] at h
      intro _ b cs a w _ _ hb
      exact ⟨a, w, st, [], none, h, rfl, hb, Steps.refl _ _⟩
    | cons x k =>
      cases x with
      | code c =>
        cases c with
        | ret =>
          simp only [ev] at h
          intro _ b cs a w _ _ hb
          exact ⟨a, w, st, _, some .ret, h, ⟨k, rfl⟩, hb, Steps.refl _ _⟩
        | skip =>
          simp only [ev] at h
          exact (ih k st r (fun p hp => hcut p (by simp only [cutsT, cutsC, List.nil_append]; exact hp)) h).step fun b cs a w _ _ => stepR_skip
        | label l =>
          simp only [ev] at h
          exact (ih k st r (fun p hp => hcut p (by simp only [cutsT, cutsC, List.nil_append]; exact hp)) h).step fun b cs a w _ _ => stepR_label
        | seq c1 c2 =>
          simp only [ev] at h
          exact (ih _ st r (fun p hp => hcut p (by simpa only [cutsT, cutsC, List.append_assoc] using hp)) h).step fun b cs a w _ _ => stepR_seq
        | cond c1 c2 c3 =>
          simp only [ev] at h
          split at h
          · rename_i t ht
            have hv : ∀ (a : Act) (w : World), Bears P E fc st a w → a.eval c1 = .bool t := by
              rintro a w ⟨_, bl, sv, hR⟩
              have := hR.eval c1
              rw [ht] at this
              exact this.bool_inv
            split at h
            · exact (ih _ st r (fun p hp => hcut p (by
                simp only [cutsT, cutsC, List.mem_append] at hp ⊢
                rcases hp with hp | hp
                · exact .inl (.inl hp)
                · exact .inr hp)) h).step fun b cs a w _ hb => by
                  have := stepR_cond (P := P) (b := b) (k := k) (cs := cs) (w := w) (x := c2) (y := c3) (hv a w hb)
                  simpa using this
            · exact (ih _ st r (fun p hp => hcut p (by
                simp only [cutsT, cutsC, List.mem_append] at hp ⊢
                rcases hp with hp | hp
                · exact .inl (.inr hp)
                · exact .inr hp)) h).step fun b cs a w _ hb => by
                  have := stepR_cond (P := P) (b := b) (k := k) (cs := cs) (w := w) (x := c2) (y := c3) (hv a w hb)
                  simpa using this
          · cases h
        | block id c1 =>
          simp only [ev] at h
          exact (ih _ st r (fun p hp => hcut p (by simpa only [cutsT, cutsC] using hp)) h).step fun b cs a w _ _ => stepR_block
        | loop c1 =>
          simp only [ev] at h
          exact (ih _ st r (fun p hp => hcut p (by
            simp only [cutsT, cutsC, List.mem_append] at hp ⊢
            rcases hp with hp | hp | hp
            · exact .inl hp
            · exact .inl hp
            · exact .inr hp)) h).step fun b cs a w _ _ => stepR_loop
        | scope c1 =>
          simp only [ev] at h
          exact (ih _ st r (fun p hp => hcut p (by
            simp only [cutsT, cutsC, List.mem_append] at hp ⊢
            rcases hp with hp | hp | hp
            · exact .inl hp
            · exact .inl hp
            · exact .inr hp)) h).step fun b cs a w _ _ => step_lone_go (by simp [stepG, stepG.exec, Frame.atR])
        | exit id =>
          simp only [ev] at h
          split at h
          · rename_i k' hk
            exact (ih _ st r (fun p hp => hcut p (by simp only [cutsT, cutsC, List.nil_append]; exact cuts_exit k k' hk p hp)) h).step (fun b cs a w _ _ => stepR_exit hk) (br_exit k k' hk)
          · rename_i hk
            intro _ b cs a w _ _ hb
            exact ⟨a, w, st, _, some (.exit id), h, ⟨k, rfl, hk⟩, hb, Steps.refl _ _⟩
        | goto l =>
          simp only [ev] at h
          split at h
          · rename_i k' hk
            exact (ih _ st r (fun p hp => hcut p (by simp only [cutsT, cutsC, List.nil_append]; exact cuts_goto k k' hk p hp)) h).step (fun b cs a w _ _ => stepR_goto hk) (br_goto k k' hk)
          · rename_i hk
            intro _ b cs a w _ _ hb
            exact ⟨a, w, st, _, some (.goto l), h, ⟨k, rfl, hk⟩, hb, Steps.refl _ _⟩
        | region id ops draw =>
          simp only [ev] at h
          split at h
          · rename_i hc
            exact hcut (id, .code (.region id ops draw) :: k) (by simp [cutsT, cutsC]) hc st r h
          · exact region_ok hE hC hmix hnt h fun st' r' h' => ih k st' r' (fun p hp => hcut p (by simp only [cutsT, List.mem_append]; exact .inr hp)) h'
        | rangeFunc f ps as bd =>
          simp only [ev] at h
          split at h
          · rename_i hc
            exact hcut (keyOf as bd, .code (.rangeFunc f ps as bd) :: k) (by simp [cutsT, cutsC]) hc st r h
          · cases h
        | refuse s => simp [ev] at h
      | inBlock id =>
        simp only [ev] at h
        exact (ih k st r (fun p hp => hcut p (by simpa only [cutsT] using hp)) h).step fun b cs a w _ _ => stepR_inBlock
      | inLoop c =>
        simp only [ev] at h
        exact (ih _ st r (fun p hp => hcut p (by
          simp only [cutsT, List.mem_append] at hp ⊢
          rcases hp with hp | hp | hp
          · exact .inl hp
          · exact .inl hp
          · exact .inr hp)) h).step fun b cs a w _ _ => stepR_inLoop
      | inScope c =>
        simp only [ev] at h
        exact (ih k st r (fun p hp => hcut p (by simp only [cutsT, List.mem_append]; exact .inr hp)) h).step fun b cs a w _ _ => step_lone_go (by simp [stepG, stepG.exec, Frame.atR])
      | beginRound =>
        simp only [ev] at h
        split at h
        · rename_i key cs0 hid
          have hg := ih k _ r (fun p hp => hcut p (by simpa only [cutsT] using hp)) h
          intro hn b cs a w hrb hfn hb
          obtain ⟨hok, bl, sv, hR⟩ := hb
          cases ro with
          | none => have := hn rfl; simp only [noBR] at this; cases this
          | some l =>
            obtain ⟨han, hbl⟩ := hro l rfl
            have hl : bl 0 = l := (hR.m.anch 0 han).2.1.trans hbl
            obtain ⟨vs, ps, as, bd, D, hv, hs, hr⟩ := lp_inv hR.m hid
            obtain ⟨m2, k2⟩ := set_lp (ls' := .busy) hR.m hid hv hs hr
            have hR2 := hR.move m2 k2 (fun d => rfl)
            have hbk := run_beginRound (P := P) hv rfl
            rw [hl] at hbk
            have hst := stepR_beginRound (P := P) (b := b) (a := a) (k := k) (cs := cs) hrb hbk
            obtain ⟨a', w', st', todo, j, h1, h2, h3, h4⟩ := hg (fun e => by cases e) b cs a _ hrb hfn ⟨fun i hi => by
              have := hok i hi
              have e := St.upd_blk st [(0, .lp key .busy cs0)] i
              rw [lk_one] at e
              by_cases e0 : i = 0
              · subst e0; rw [hid] at this; cases this
              · rw [if_neg e0] at e; exact e.trans (by simpa using this), bl, sv, by
                rw [hl] at hR2; exact hR2⟩
            exact ⟨a', w', st', todo, j, h1, h2, h3, .head hst h4⟩
        · cases h
      | _ => simp [ev] at h

theorem map_inj {α β : Type} {f : α → β} (inj : ∀ x y, f x = f y → x = y) : ∀ l l' : List α, l.map f = l'.map f → l = l' := by
  intro l
  induction l with
  | nil => intro l' h; cases l' with
    | nil => rfl
    | cons _ _ => cases h
  | cons x l ih => intro l' h; cases l' with
    | nil => cases h
    | cons y l' => simp only [List.map_cons, List.cons.injEq] at h; rw [inj x y h.1, ih l' h.2]
theorem range_reps {bl : Nat → Nat} {sv : Nat → Value} {st : St G} {a : Act} {w : World} (hR : Rel P E fc bl sv st a w) (hnt : fc.nt = nt) : Reps (st.cx P E fc bl sv w) ((List.range nt).map st.get) a.tmps.toList := by
  refine ⟨by simp [hR.size, hnt], fun j hj => ?_⟩
  have hj' : j < nt := by simpa using hj
  have := hR.tmps j
  simp only [List.getElem_map, List.getElem_range]
  have e : a.tmps.toList.getD j undef = a.tmps.getD j undef := by
    rw [List.getD_eq_getElem?_getD, Array.getElem?_toList, Array.getD_eq_getD_getElem?]
  rw [e]; exact this
theorem evF_ok (hE : EnvOk P E) (hC : OracleOk P E C) (hnt : fc.nt = nt) {R : Type} {fid : Nat} {fin : Option Code → St G → Option R} {key : Nat} {f : Operand} {ps : Array Tmp} {as bd : Code} {k : List Item} {st : St G} {r : R} {go : List Item → St G → Option R}
    (hkey : key / 1024 = fid) (hsite : siteOf P key = some (ps, as, bd))
    (h : evF P C key nt go f k st = some r) (hgo : ∀ k' st' r', (k' = k ∨ ∃ c, isJmp c = true ∧ k' = .code c :: k) → go k' st' = some r' → Good P E fc none fid fin k' st' r') : Good P E fc none fid fin (.code (.rangeFunc f ps as bd) :: k) st r := by
  intro hn b cs a w hro hfn hb
  obtain ⟨hok, bl, sv, hR⟩ := hb
  unfold evF at h
  split at h
  case h_2 => cases h
  rename_i gf first cap hev
  split at h
  case h_2 => cases h
  rename_i hbody
  obtain ⟨fn, hfn1, hfn2⟩ := Option.map_eq_some_iff.1 hbody
  rw [Q.run_eq] at h
  obtain ⟨⟨e, l0⟩, htr, h⟩ := Option.bind_eq_some_iff.1 h
  simp only [] at h
  split at h
  case h_1 => cases h
  rename_i hupd
  -- the record is laid
  let st1 : St G := { st with heap := (st.next, .lp key .ready ((List.range nt).map st.get)) :: st.heap }
  have hst1 : st1 = st.upd [(st.next, .lp key .ready ((List.range nt).map st.get))] := rfl
  obtain ⟨m1, k1, ow1⟩ := new_lp hR.m (hok st.next (Nat.le_refl _)) hsite (range_reps hR hnt)
  have hmk := laid_mark w key a.tmps.toList ps as bd
  have hR1a := hR.move (st' := st1) m1 k1 (fun d => rfl)
  have hR1 := hR1a.mark (D := w.heap.size) hmk hR.m.grow ow1 (fun ds hds hmem => by
    obtain ⟨ds', e1, _, hd⟩ := hR.marks
    have : ds = ds' := by
      have e2 : ds.map markOf = ds'.map markOf := hds.symm.trans e1
      have inj : ∀ x y, markOf x = markOf y → x = y := fun x y h => by unfold markOf at h; injection h with h1; injection h1
      exact map_inj inj ds ds' e2
    subst this
    have h1 := (hd _ hmem).1
    have := (Array.getElem?_eq_some_iff.1 h1).1
    omega)
  -- the function is called
  have hfr := hR.eval f
  rw [hev] at hfr
  generalize hv : a.eval f = v at hfr
  cases hfr with
  | fnv f' cs' ds' us vs hl hr hl' hr' =>
    have hy : Rep (st1.cx P E fc (at_ bl st.next (w.heap.size + 1)) sv (laid w key a.tmps.toList ps as bd)) (.yld st.next) (.func (.yield (w.heap.size + 1)) #[] #[]) := by
      have := Rep.yld (c := st1.cx P E fc (at_ bl st.next (w.heap.size + 1)) sv (laid w key a.tmps.toList ps as bd)) st.next (by show (St.blk st1 st.next).isSome = true; rw [hst1, St.upd_blk, lk_one]; simp)
      have e2 : (st1.cx P E fc (at_ bl st.next (w.heap.size + 1)) sv (laid w key a.tmps.toList ps as bd)).bl st.next = w.heap.size + 1 := at_same _ _ _
      rw [e2] at this
      exact this
    have hall := (Reps.append (Reps.append ((show Reps _ _ _ from ⟨hl, hr⟩).keep k1) (Reps.cons hy (Reps.nil _))) ((show Reps _ _ _ from ⟨hl', hr'⟩).keep k1))
    have hfr1 : Fresh st1 (st.next + stride) := fun i h1 h2 => by
      rw [hst1, St.upd_blk, lk_one, if_neg (by unfold stride at *; omega)]
      exact hok i (by unfold stride at *; omega)
    have hcall := hC fc _ sv st1 _ (.fn gf) _ _ (st.next + stride) e l0 hR1.m hall hfr1 htr
    have hp : ∀ w, (program).run P w = .ok P w := fun _ => rfl
    let yv : Value := .func (.yield (w.heap.size + 1)) #[] #[]
    rcases hcall with ⟨fn', q1, q2, q3, q4⟩ | ⟨v', w', q1, _⟩
    case inr =>
      simp only [Bool.or_eq_false_iff] at hfn2
      simp only [callFunc, Sem.run_bind, hp, Result.andThen_ok, hfn1, hfn2.1, hfn2.2, Bool.false_eq_true, if_false, Sem.run_pure] at q1
      cases q1
    have he := run_enterLoop_outer (P := P) (w := w) b.fn a.tmps ps as bd
    rw [← hro] at he
    have hw1 : (w.alloc (.deferred (some []))).alloc (.loop { state := .ready, pending := none, fn := b.fn, tmps := a.tmps, params := ps, assign := as, body := bd, defers := w.heap.size }) = laid w key a.tmps.toList ps as bd := by
      unfold laid loopRec
      rw [hkey, hfn]; rfl
    rw [hw1] at he
    have hstep := stepR_rangeFunc (P := P) (b := b) (a := a) (k := k) (cs := cs) (w := w) (g := f) (d := { target := .fn (.func gf) vs.toArray, args := us.toArray ++ #[yv] }) (f := gf) (args := (us ++ [yv] ++ vs).toArray) (w₁' := laid w key a.tmps.toList ps as bd) (w₂ := laid w key a.tmps.toList ps as bd) he
      (by
        simp only [resolve, rangeCall, hv, Deferred.ofValue, Sem.run_pure]
        rw [show Array.map a.eval #[Operand.const (Value.func (Fn.yield (w.heap.size + 1)) #[] #[])] = #[yv] by simp [Act.eval, yv]])
      (by
        simp only [invoke, callFunc, Sem.run_bind, hp, Result.andThen_ok, q1, q2, q3, Bool.false_eq_true, if_false, Sem.run_pure]
        congr 2
        simp)
    obtain ⟨en, w2, fr, ⟨vr, hen, bl2, sv2, m2, k2, _⟩, hcomes, _, hleave⟩ := q4 (b.atR { a with defers := [{ target := .collected w.heap.size, args := #[] }] ++ a.defers } (.inRangeFunc (w.heap.size + 1) :: k) :: cs)
    subst hen
    have hs2 := step_leave_returned (c := b.atR { a with defers := [{ target := .collected w.heap.size, args := #[] }] ++ a.defers } (.inRangeFunc (w.heap.size + 1) :: k)) (cs := cs) hleave
    rw [finish_atR_inRangeFunc] at hs2
    have hlv : (St.blk st1 st.next).isSome = true := by rw [hst1, St.upd_blk, lk_one]; simp
    have hbl2 : bl2 st.next = w.heap.size + 1 := (k2.ids st.next hlv).2.1.trans (at_same _ _ _)
    have hR2 := hR1.move m2 k2 (fun d => rfl)
    have fin : ∀ {ls : LS} {key' : Nat} {cs' : List (AV G)}, (St.upd st1 e.upd).blk st.next = some (.lp key' ls cs') → ls ≠ .busy → (∀ c, ls = .done c → isJmp c = true) → ∀ k', k' = (lsPend ls).toList.map Item.code ++ k → go k' { tmps := st.tmps, heap := (st.next, .dead) :: ins e.upd ((st.next, .lp key .ready ((List.range nt).map st.get)) :: st.heap), next := st.next + stride + stride } = some r →
        ∃ a' w' st' todo j, fin j st' = some r ∧ Ends j todo ∧ Bears P E fc st' a' w' ∧ Steps P (lone (b.atR a (.code (.rangeFunc f ps as bd) :: k)) cs w) (lone (b.atR a' todo) cs w') := by
      intro ls key' cs' hid hnb hj k' hk' hg
      obtain ⟨vs3, ps3, as3, bd3, D3, hv3, _, _⟩ := lp_inv m2 hid
      obtain ⟨m3, k3⟩ := end_lp m2 hid (.loop { loopRec key' ls vs3 ps3 as3 bd3 D3 with state := .exhausted })
      have hR3 := hR2.move m3 k3 (fun d => rfl)
      have hend := run_endLoop (P := P) hv3 (by cases ls <;> simp_all [loopRec, lsState])
      rw [hbl2] at hend hR3
      have hs3 := stepR_endRangeFunc (b := b) (a := { a with defers := [{ target := .collected w.heap.size, args := #[] }] ++ a.defers }) (k := k) (cs := cs) hend
      have hgood := hgo k' _ r (by
        cases ls with
        | done c => exact .inr ⟨c, hj c rfl, hk'⟩
        | ready => exact .inl hk'
        | busy => exact .inl hk') hg (fun e => by
          have hn2 := hn e
          rw [hk']
          cases ls <;> simpa only [lsPend, Option.toList, List.map_cons, List.map_nil, List.nil_append, List.cons_append, noBR] using hn2) b cs _ _ hro hfn ⟨fun i hi => ?_, bl2, sv2, SEq.rel (s := St.upd (St.upd st1 e.upd) [(st.next, .dead)]) ⟨fun _ => rfl, fun _ => rfl⟩ hR3⟩
      · obtain ⟨a', w', st', todo, j, g1, g2, g3, g4⟩ := hgood
        refine ⟨a', w', st', todo, j, g1, g2, g3, .head hstep (Steps.trans hcomes (.head hs2 (.head hs3 ?_)))⟩
        have ek : ((loopRec key' ls vs3 ps3 as3 bd3 D3).pending.map Item.code).toList ++ k = k' := by
          rw [hk']; cases ls <;> rfl
        rw [ek]; exact g4
      · have hi' : st.next + stride + stride ≤ i := hi
        have e1 := St.upd_blk (St.upd st1 e.upd) [(st.next, .dead)] i
        rw [lk_one, if_neg (by unfold stride at *; omega)] at e1
        have e2 := St.upd_blk st1 e.upd i
        have e3 : St.blk st1 i = none := by
          rw [hst1, St.upd_blk, lk_one, if_neg (by unfold stride at *; omega)]
          simpa using hok i (by omega)
        have e4 : lk e.upd i = none := by
          cases hl4 : lk e.upd i with
          | none => rfl
          | some x =>
            rcases updOk_inv _ hupd i (by rw [hl4]; simp) with h5 | h5
            · exact absurd e3 h5
            · exfalso; unfold stride at *; omega
        show (St.upd (St.upd st1 e.upd) [(st.next, .dead)]).blk i = none
        rw [e1, e2, e3, e4]; rfl
    split at h
    · rename_i key' cs' hid
      exact fin hid (by intro e; cases e) (by intro c e; cases e) k rfl h
    · rename_i key' c cs' hid
      split at h
      · rename_i hj
        exact fin hid (by intro e; cases e) (by intro c' e; cases e; exact hj) (.code c :: k) rfl h
      · cases h
    · cases h
theorem evCut_ok (hE : EnvOk P E) (hC : OracleOk P E C) (hmix : P.follows .mixedOrders = true) (hnt : fc.nt = nt) {R : Type} {ro : Option Nat} (hro : ROk fc ro) {fid : Nat} {rd : Bool} (hrd : rd = false → ro = none) {fin : Option Code → St G → Option R} {cut : Nat → Bool} {L : Nat → St G → Option R} {n : Nat} {td : List Item} {st : St G} {r : R}
    (hsite : rd = false → ∀ f ps as bd k, td = .code (.rangeFunc f ps as bd) :: k → keyOf as bd < 1024 → siteOf P (fid * 1024 + keyOf as bd) = some (ps, as, bd))
    (hcut : CutsOk P E fc ro fid fin cut L (cutsT td)) (h : evCut P E C rd fid nt cut L fin n td st = some r) : Good P E fc ro fid fin td st r := by
  unfold evCut at h
  split at h
  · rename_i id ops draw k
    exact region_ok hE hC hmix hnt h fun st' r' h' => ev_ok hE hC hmix hnt hro n k st' r' (fun p hp => hcut p (by simp only [cutsT, List.mem_append]; exact .inr hp)) h'
  · rename_i f ps as bd k
    split at h
    · rename_i hk
      have hlt : keyOf as bd < 1024 := by have := Nat.le_of_ble_eq_true hk; omega
      obtain rfl := hrd rfl
      refine evF_ok hE hC hnt (by omega) (hsite rfl f ps as bd k rfl hlt) h fun k' st' r' hk' h' => ?_
      rcases hk' with rfl | ⟨c, hj, rfl⟩
      · exact ev_ok hE hC hmix hnt hro n _ st' r' (fun p hp => hcut p (by simp only [cutsT, List.mem_append]; exact .inr hp)) h'
      · refine ev_ok hE hC hmix hnt hro n _ st' r' (fun p hp => hcut p ?_) h'
        simp only [cutsT, List.mem_append] at hp ⊢
        rcases hp with hp | hp
        · cases c <;> simp only [isJmp, Bool.false_eq_true] at hj <;> simp only [cutsC, List.not_mem_nil] at hp
        · exact .inr hp
    · cases h
  · cases h
end
end Go.Proofs.Ytemdppcnhlnicaa.Ev
