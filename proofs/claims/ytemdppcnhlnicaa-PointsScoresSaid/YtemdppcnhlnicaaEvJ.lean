/- Rows that grow; lengths, least and greatest. -/
import Derived.Test.YtemdppcnhlnicaaEvI
import Derived.Laws.BytesString
set_option linter.unusedVariables false
set_option linter.unusedSimpArgs false
namespace Go.Proofs.Ytemdppcnhlnicaa.Ev
open Go Go.RowKit
variable {G : Nat → Type}
section
variable {P : Program} {E : Env G} {C : Oracle G} {fc : FC} {bl : Nat → Nat} {sv : Nat → Value} {st : St G} {a : Act} {w : World}

/-! ### Slices of slices -/
def OptRep (c : Cx G) : Option (AV G) → Option Value → Prop
  | none, none => True
  | some a, some v => Rep c a v
  | _, _ => False
theorem bndQ_inv {c : Cx G} {d n : Int} {x : Option (AV G)} {v : Option Value} (h : bndQ d x = some n) (hr : OptRep c x v) : (x = none ∧ v = none ∧ n = d) ∨ ∃ k, v = some (.int k n) ∧ x ≠ none := by
  unfold bndQ at h
  split at h
  · cases v with
    | none => exact .inl ⟨rfl, rfl, (Option.some.inj h).symm⟩
    | some v => cases hr
  · rename_i k m
    obtain rfl := Option.some.inj h
    cases v with
    | none => cases hr
    | some v => exact .inr ⟨k, by rw [Rep.int_inv hr], by simp⟩
  · cases h
theorem sliceBound_run {k : IntKind} {i : Int} {y : Nat} {code : BoundsCode} (h : 0 ≤ i ∧ i ≤ y) : (Instr.sliceBound (.int k i) y code).run P w = .ok i.toNat w := by
  simp [Instr.sliceBound, asIntOf, h]
theorem sliceBounds_run {c : Cx G} {isS : Bool} {len cap : Nat} {lo hi mx : Option (AV G)} {low high max : Option Value} {x y : Int} {mb : Bool}
    (h1 : OptRep c lo low) (h2 : OptRep c hi high) (h3 : OptRep c mx max) (hm : isMx hi mx = true) (hl : bndQ 0 lo = some x) (hh : bndQ (len : Int) hi = some y) (hmx : maxQ mx y = some mb) (hmb : mb = true)
    (hb : 0 ≤ x ∧ x ≤ y ∧ y ≤ (len : Int)) (hc : len ≤ cap) : ∃ M, (Instr.sliceBounds isS len cap low high max).run P w = .ok (x.toNat, y.toNat, M) w ∧ y.toNat ≤ M ∧ M ≤ cap ∧ (mx = none → M = cap) := by
  subst hmb
  have lows : (low = none ∧ x = 0) ∨ ∃ k, low = some (.int k x) := by
    rcases bndQ_inv hl h1 with ⟨_, h, h'⟩ | ⟨k, h, _⟩
    · exact .inl ⟨h, h'⟩
    · exact .inr ⟨k, h⟩
  cases max with
  | none =>
    have hmx0 : mx = none := by
      cases mx with
      | none => rfl
      | some z => cases h3
    refine ⟨cap, ?_, by omega, Nat.le_refl _, fun _ => rfl⟩
    rcases bndQ_inv hh h2 with ⟨_, rfl, rfl⟩ | ⟨k2, rfl, _⟩
    · rcases lows with ⟨rfl, rfl⟩ | ⟨k, rfl⟩
      · simp [Instr.sliceBounds]
      · have h5 : ∀ code, (Instr.sliceBound (.int k x) len code).run P w = .ok x.toNat w := fun code => sliceBound_run (by omega)
        simp [Instr.sliceBounds, h5]
    · have h4 : ∀ code, (Instr.sliceBound (.int k2 y) cap code).run P w = .ok y.toNat w := fun code => sliceBound_run (by omega)
      rcases lows with ⟨rfl, rfl⟩ | ⟨k, rfl⟩
      · simp [Instr.sliceBounds, h4]
      · have h5 : ∀ code, (Instr.sliceBound (.int k x) y.toNat code).run P w = .ok x.toNat w := fun code => sliceBound_run (by omega)
        simp [Instr.sliceBounds, h4, h5]
  | some vm =>
    cases mx with
    | none => cases h3
    | some am =>
      unfold maxQ at hmx
      split at hmx
      · rename_i heq; cases heq
      · rename_i km m heq
        obtain rfl := Option.some.inj heq
        have hmy : m = y := by simpa using hmx
        subst hmy
        obtain rfl := Rep.int_inv (show Rep c (.int km m) vm from h3)
        rcases bndQ_inv hh h2 with ⟨rfl, _, _⟩ | ⟨k2, rfl, _⟩
        · cases hm
        · have h4 : ∀ code, (Instr.sliceBound (.int km m) cap code).run P w = .ok m.toNat w := fun code => sliceBound_run (by omega)
          have h6 : ∀ code, (Instr.sliceBound (.int k2 m) m.toNat code).run P w = .ok m.toNat w := fun code => sliceBound_run (by omega)
          refine ⟨m.toNat, ?_, Nat.le_refl _, by omega, fun h => by cases h⟩
          rcases lows with ⟨rfl, rfl⟩ | ⟨k, rfl⟩
          · simp [Instr.sliceBounds, h4, h6]
          · have h5 : ∀ code, (Instr.sliceBound (.int k x) m.toNat code).run P w = .ok x.toNat w := fun code => sliceBound_run (by omega)
            simp [Instr.sliceBounds, h4, h5, h6]
      · cases hmx
theorem cutx_inv {α : Type} {xs ys : List α} {x y : Int} (h : cutx xs x y = some ys) : (0 ≤ x ∧ x ≤ y ∧ y ≤ (xs.length : Int)) ∧ ys = (xs.take y.toNat).drop x.toNat := by
  unfold cutx at h
  split at h
  · rename_i hd; exact ⟨of_decide_eq_true hd, (Option.some.inj h).symm⟩
  · cases h
theorem cutn_inv {x y len : Int} {p : Nat × Nat} (h : cutn x y len = some p) : (0 ≤ x ∧ x ≤ y ∧ y ≤ len) ∧ p = (x.toNat, (y - x).toNat) := by
  unfold cutn at h
  split at h
  · rename_i hd; exact ⟨of_decide_eq_true hd, (Option.some.inj h).symm⟩
  · cases h
theorem sizeIs_inv {e sz : Nat} (h : sizeIs P e sz = true) : sizeOf? P e = some sz := by
  unfold sizeIs at h
  split at h
  · rename_i n1 h1; rw [h1, Nat.eq_of_beq_eq_true h]
  · cases h
theorem ros_cut {c : Cx G} {e : Nat} {xs : List (G e)} {A : Option Addr} {n cap sz : Nat} (h : Rep c (.ros e xs) (.slice A n cap)) (hsz : sizeOf? c.P e = some sz) {x y : Int} (hb : 0 ≤ x ∧ x ≤ y ∧ y ≤ (xs.length : Int)) {M : Nat} (hM : y.toNat ≤ M) (hM2 : M ≤ cap) (hM3 : A = none → M = 0) :
    Rep c (.ros e ((xs.take y.toNat).drop x.toNat)) (.slice (if M = x.toNat then A else A.map (·.add (x.toNat * sz))) (y.toNat - x.toNat) (M - x.toNat)) := by
  by_cases h0 : y.toNat - x.toNat = 0
  · have hn : (xs.take y.toNat).drop x.toNat = [] := by apply List.drop_eq_nil_of_le; simp; omega
    rw [hn, h0]
    refine .ros0 e _ _ fun hA => ?_
    split at hA
    · omega
    · cases A with
      | none => rw [hM3 rfl]; simp
      | some A => cases hA
  · cases h with
    | ros0 => simp at hb; omega
    | ros e xs b off cap sz' vs hsz' hb' ho hc hl hr hcap =>
      rw [hsz] at hsz'
      obtain rfl := Option.some.inj hsz'
      rw [if_neg (by omega)]
      have hlen : ((xs.take y.toNat).drop x.toNat).length = y.toNat - x.toNat := by simp; omega
      have hget : ∀ i (hi : i < ((xs.take y.toNat).drop x.toNat).length), ((xs.take y.toNat).drop x.toNat)[i] = xs[x.toNat + i]'(by omega) := by
        intro i hi; simp
      have := Rep.ros (c := c) e ((xs.take y.toNat).drop x.toNat) b (off + x.toNat * sz) (M - x.toNat) sz (fun i j => vs (x.toNat + i) j) hsz hb' ho
        (fun i hi j hj => by
          rw [show off + x.toNat * sz + i * sz + j = off + (x.toNat + i) * sz + j by rw [Nat.add_mul]; omega]
          exact hc (x.toNat + i) (by omega) j hj)
        (fun i hi => by rw [hget i hi]; exact hl _ (by omega))
        (fun i hi j hj => by
          have h1 := hget i hi
          have h2 : j < (c.E.enc e (xs[x.toNat + i]'(by omega))).length := by rw [← h1]; exact hj
          have h3 := hr (x.toNat + i) (by omega) j h2
          simpa only [h1] using h3)
        (by omega)
      rw [hlen] at this
      simpa [add_plain] using this
theorem cutQ_inv {mx : Option (AV G)} {a b : Option Int} {k : Int → Int → Q G (Eff G)} {h : Nat → Option (Blk G)} {e : Eff G} {l : List Nat} (hq : (cutQ mx a b k).trace h = some (e, l)) :
    ∃ x y m, a = some x ∧ b = some y ∧ maxQ mx y = some m ∧ m = true ∧ (k x y).trace h = some (e, l) := by
  unfold cutQ at hq
  split at hq
  · rename_i x y
    split at hq
    · rename_i m hm
      obtain ⟨_, hc, hq⟩ := opt_inv hq
      exact ⟨x, y, m, rfl, rfl, hm, chk_inv hc, hq⟩
    · cases hq
  · cases hq
theorem slice_ok (hR : Rel P E fc bl sv st a w) {t : Nat} {x : AV G} {lo hi mx : Option (AV G)} {v : Value} {low high max : Option Value} (hx : Rep (st.cx P E fc bl sv w) x v)
    (h1 : OptRep (st.cx P E fc bl sv w) lo low) (h2 : OptRep (st.cx P E fc bl sv w) hi high) (h3 : OptRep (st.cx P E fc bl sv w) mx max) {e : Eff G} {l : List Nat} (hq : (sliceQ P t x lo hi mx).trace st.blk = some (e, l)) :
    ∃ r, (Instr.sliceAt t v low high max).run P w = .ok r w ∧ Out P E fc bl sv st w e r w := by
  unfold sliceQ at hq
  split at hq
  · cases hq
  · rename_i hmx0
    split at hq
    · rename_i el hu
      split at hq
      · cases hq
      · rename_i sz hsz
        have hsr : (Go.sizeOf el).run P w = .ok sz w := run_sizeOf? hsz
        have go : ∀ {A : Option Addr} {len cap : Nat} {x y : Int} {m : Bool}, bndQ 0 lo = some x → bndQ (len : Int) hi = some y → maxQ mx y = some m → m = true → (0 ≤ x ∧ x ≤ y ∧ y ≤ (len : Int)) → len ≤ cap →
            ∃ M, (Instr.sliceAt t (.slice A len cap) low high max).run P w = .ok (.slice (if M = x.toNat then A else A.map (·.add (x.toNat * sz))) (y.toNat - x.toNat) (M - x.toNat)) w ∧ y.toNat ≤ M ∧ M ≤ cap := by
          intro A len cap x y m hl hh hm hmt hb hc
          obtain ⟨M, hrun, hM1, hM2, _⟩ := sliceBounds_run (P := P) (w := w) (isS := true) (cap := cap) h1 h2 h3 hmx0 hl hh hm hmt hb hc
          exact ⟨M, by simp only [Instr.sliceAt, Instr.slice, Sem.run_bind, run_underlying hu, Result.andThen_ok, hrun, hsr, Sem.run_pure], hM1, hM2⟩
        have facts : ∀ {e0 : Nat} {xs : List (G e0)} {v : Value}, Rep (st.cx P E fc bl sv w) (.ros e0 xs) v → ∃ A cap, v = .slice A xs.length cap ∧ xs.length ≤ cap ∧ (A = none → cap = 0) := by
          intro e0 xs v hx
          cases hx with
          | ros0 e A cap h => exact ⟨_, _, rfl, Nat.zero_le _, h⟩
          | ros e xs b off cap sz vs hsz hb' ho hc hl hr hcap => exact ⟨_, _, rfl, hcap, fun h => by cases h⟩
        split at hq
        · -- ros
          rename_i e0 xs
          split at hq
          · rename_i hbeq
            obtain rfl := Nat.eq_of_beq_eq_true hbeq
            obtain ⟨x, y, m, hl, hh, hm, hmt, hq⟩ := cutQ_inv hq
            obtain ⟨ys, hcut, hq⟩ := opt_inv hq
            obtain rfl := pureE_inv hq
            obtain ⟨hb, rfl⟩ := cutx_inv hcut
            obtain ⟨A, cap, rfl, hcap, hA⟩ := facts hx
            obtain ⟨M, hrun, hM1, hM2⟩ := go (A := A) hl hh hm hmt hb hcap
            exact ⟨_, hrun, Out.pure hR.m (ros_cut hx hsz hb hM1 hM2 fun h => by have := hA h; omega)⟩
          · cases hq
        · -- rosn
          rename_i e0 xs
          split at hq
          · rename_i hbeq
            obtain rfl := Nat.eq_of_beq_eq_true hbeq
            obtain ⟨x, y, m, hl, hh, hm, hmt, hq⟩ := cutQ_inv hq
            obtain ⟨ys, hcut, hq⟩ := opt_inv hq
            obtain rfl := pureE_inv hq
            obtain ⟨hb, rfl⟩ := cutx_inv hcut
            have hx' := hx.rosn_ros
            obtain ⟨A0, n0, cap0, hv0⟩ := hx.rosn_inv
            obtain ⟨A, cap, rfl, hcap, hA⟩ := facts hx'
            obtain ⟨rfl, _, _⟩ : A = some A0 ∧ _ ∧ _ := by simpa using hv0
            obtain ⟨M, hrun, hM1, hM2⟩ := go (A := some A0) hl hh hm hmt hb hcap
            refine ⟨_, hrun, Out.pure hR.m ?_⟩
            have hc := ros_cut hx' hsz hb hM1 hM2 fun h => by cases h
            have hlen : ((xs.take y.toNat).drop x.toNat).length = y.toNat - x.toNat := by simp; omega
            obtain ⟨A1, hA1⟩ : ∃ A1, (if M = x.toNat then some A0 else (some A0).map (·.add (x.toNat * sz))) = some A1 := by split <;> exact ⟨_, rfl⟩
            rw [hA1] at hc ⊢
            rw [← hlen] at hc ⊢
            exact .rosn _ _ _ _ hc
          · cases hq
        · -- nil
          obtain ⟨x, y, m, hl, hh, hm, hmt, hq⟩ := cutQ_inv hq
          obtain ⟨_, hcc, hq⟩ := opt_inv hq
          obtain rfl := pureE_inv hq
          obtain ⟨rfl, rfl⟩ := of_decide_eq_true (chk_inv hcc)
          obtain rfl := hx.nilsl_inv
          obtain ⟨M, hrun, hM1, hM2⟩ := go (A := none) (len := 0) (cap := 0) hl hh hm hmt ⟨by omega, by omega, by omega⟩ (by omega)
          refine ⟨_, hrun, Out.pure hR.m ?_⟩
          obtain rfl : M = 0 := by omega
          exact .nilsl
        · -- own
          rename_i id
          have hq1 := ask_inv hq
          clear hq
          obtain ⟨l', hq, -⟩ := hq1
          split at hq
          · rename_i e0 xs hbk
            split at hq
            · rename_i hbeq
              obtain rfl := Nat.eq_of_beq_eq_true hbeq
              obtain ⟨x, y, m, hl, hh, hm, hmt, hq⟩ := cutQ_inv hq
              obtain ⟨p, hcut, hq⟩ := opt_inv hq
              obtain rfl := pureE_inv hq
              obtain ⟨hb, rfl⟩ := cutn_inv hcut
              obtain ⟨sz', vs, hsz', hown, hr, hlx⟩ := hR.m.blks id _ hbk
              have hown' : w.ownsRow 0 e0 sz' (sv id) xs.length vs := hown
              cases hx with
              | osl id A n cap hlv hs =>
                have hs' : sv id = .slice A n cap := hs
                rcases hown'.2 with ⟨h4, h5⟩ | ⟨g, cap', cur, h4, _, hcur, r1, _⟩
                · rw [hs'] at h4; simp only [Value.slice.injEq] at h4
                  obtain ⟨rfl, rfl, rfl⟩ := h4
                  rw [h5] at hh hb
                  obtain ⟨M, hrun, hM1, hM2⟩ := go (A := none) (len := 0) (cap := 0) hl hh hm hmt hb (by omega)
                  refine ⟨_, hrun, Out.pure hR.m ?_⟩
                  obtain rfl : M = 0 := by omega
                  simp only [show y.toNat - x.toNat = 0 by omega, show (y - x).toNat = 0 by omega]
                  exact .sub0 _ _ _ _ _ fun _ => by omega
                · rw [hs'] at h4; simp only [Value.slice.injEq] at h4
                  obtain ⟨rfl, rfl, rfl⟩ := h4
                  obtain ⟨M, hrun, hM1, hM2⟩ := go (A := some ⟨g, 0, none⟩) hl hh hm hmt hb r1
                  refine ⟨_, hrun, Out.pure hR.m ?_⟩
                  simp only [show (y - x).toNat = y.toNat - x.toNat by omega]
                  by_cases h0 : y.toNat - x.toNat = 0
                  · rw [h0]
                    refine .sub0 _ _ _ _ _ fun hA => ?_
                    split at hA <;> cases hA
                  · rw [if_neg (by omega)]
                    simp only [Option.map_some, add_plain, Nat.zero_add]
                    exact .sub id sz x.toNat _ g xs.length cap _ hlv hs (by omega) (by omega)
            · cases hq
          · cases hq
        · -- part of an own one
          rename_i id sz' l0 n
          split at hq
          · rename_i hbeq
            obtain rfl := Nat.eq_of_beq_eq_true hbeq
            obtain ⟨x, y, m, hl, hh, hm, hmt, hq⟩ := cutQ_inv hq
            obtain ⟨p, hcut, hq⟩ := opt_inv hq
            obtain rfl := pureE_inv hq
            obtain ⟨hb, rfl⟩ := cutn_inv hcut
            simp only [show (y - x).toNat = y.toNat - x.toNat by omega]
            cases hx with
            | sub0 _ _ _ A cap hA =>
              obtain ⟨M, hrun, hM1, hM2⟩ := go (A := A) hl hh hm hmt hb (Nat.zero_le _)
              refine ⟨_, hrun, Out.pure hR.m ?_⟩
              rw [show y.toNat - x.toNat = 0 by omega]
              refine .sub0 _ _ _ _ _ fun hA' => ?_
              split at hA'
              · omega
              · cases A with
                | none => have := hA rfl; omega
                | some A => cases hA'
            | sub _ _ _ _ g N cap cap' hlv hs hn hc =>
              obtain ⟨M, hrun, hM1, hM2⟩ := go (A := some ⟨g, l0 * sz', none⟩) hl hh hm hmt hb hc
              refine ⟨_, hrun, Out.pure hR.m ?_⟩
              by_cases h0 : y.toNat - x.toNat = 0
              · rw [h0]
                refine .sub0 _ _ _ _ _ fun hA => ?_
                split at hA <;> cases hA
              · rw [if_neg (by omega)]
                simp only [Option.map_some, add_plain, ← Nat.add_mul]
                exact .sub id sz' (l0 + x.toNat) _ g N cap _ hlv hs (by omega) (by omega)
          · cases hq
        · cases hq
    · rename_i len el hu
      split at hq
      · rename_i id off
        split at hq
        · rename_i sz hsz
          have hsr : (Go.sizeOf el).run P w = .ok sz w := run_sizeOf? hsz
          obtain ⟨x, y, m, hl, hh, hm, hmt, hq⟩ := cutQ_inv hq
          obtain ⟨_, hcc, hq⟩ := opt_inv hq
          obtain ⟨p, hcut, hq⟩ := opt_inv hq
          obtain rfl := pureE_inv hq
          obtain ⟨hb, rfl⟩ := cutn_inv hcut
          have hlt := of_decide_eq_true (chk_inv hcc)
          obtain ⟨M, hrun, hM1, hM2, hM3⟩ := sliceBounds_run (P := P) (w := w) (isS := false) (cap := len) h1 h2 h3 hmx0 hl hh hm hmt hb (Nat.le_refl _)
          obtain rfl := hM3 rfl
          have hx' := hx
          obtain rfl := hx.ptr_inv
          refine ⟨.slice (some (if M = x.toNat then ⟨bl id, off, none⟩ else (⟨bl id, off, none⟩ : Addr).add (x.toNat * sz))) (y.toNat - x.toNat) (M - x.toNat), ?_, Out.pure hR.m ?_⟩
          · simp only [Instr.sliceAt, Instr.sureAddr, Sem.run_bind, run_underlying hu, Result.andThen_ok, Sem.run_pure, hrun, hsr]; rfl
          · rw [if_neg (by omega), add_plain]
            simp only [show (y - x).toNat = y.toNat - x.toNat by omega]
            cases hx' with
            | ptr _ _ h => exact .asl id _ _ _ h (by omega)
        · cases hq
      · cases hq
    · cases hq

/-- What a slice is, that is told as elements. -/
def Holds (c : Cx G) (el : Nat) (v : Value) (ys : List (G el)) (news : List Value) : Prop :=
  Reps c (ys.flatMap (c.E.enc el)) news ∧ ((∃ ad cap, v = .slice (some ad) ys.length cap ∧ ∀ j u, news[j]? = some u → c.w.cell? (ad.add j) = some u) ∨ (∃ cap, v = .slice none 0 cap ∧ ys = []))

theorem elems_inv0 (hE : EnvOk P E) (hR : Rel P E fc bl sv st a w) {el : Nat} {x : AV G} {v : Value} {k : List (G el) → Q G (Eff G)} (hn : ∀ e ys, x ≠ .rosn e ys) (hx : Rep (st.cx P E fc bl sv w) x v) {e : Eff G} {l : List Nat} (hq : (elemsQ P E el x k).trace st.blk = some (e, l)) :
    ∃ ys news l', (k ys).trace st.blk = some (e, l') ∧ Holds (st.cx P E fc bl sv w) el v ys news := by
  unfold elemsQ at hq
  split at hq
  · obtain rfl := hx.nilsl_inv
    exact ⟨[], [], l, hq, Reps.nil _, .inr ⟨0, rfl, rfl⟩⟩
  · rename_i e0 ys
    split at hq
    · rename_i h
      obtain rfl := Nat.eq_of_beq_eq_true h
      cases hx with
      | ros0 e0 A cap hA =>
        refine ⟨_, [], l, hq, Reps.nil _, ?_⟩
        cases A with
        | none => exact .inr ⟨cap, rfl, rfl⟩
        | some ad => exact .inl ⟨ad, cap, rfl, by simp⟩
      | ros e0 xs b off cap sz vs hsz hb ho hc hl hr hcap =>
        refine ⟨_, ((List.range ys.length).map fun i => (List.range sz).map fun j => vs i j).flatten, l, hq, ?_, .inl ⟨_, cap, rfl, ?_⟩⟩
        · have : ∀ (n : Nat) (hn : n ≤ ys.length), Reps (st.cx P E fc bl sv w) ((ys.take n).flatMap ((st.cx P E fc bl sv w).E.enc e0)) ((List.range n).map fun i => (List.range sz).map fun j => vs i j).flatten := by
            intro n
            induction n with
            | zero => intro _; exact Reps.nil _
            | succ n ih =>
              intro hn
              have hlt : n < ys.length := hn
              rw [List.take_succ_eq_append_getElem hlt, List.range_succ]
              simp only [List.flatMap_append, List.map_append, List.flatten_append, List.flatMap_cons, List.flatMap_nil, List.append_nil, List.map_cons, List.map_nil, List.flatten_cons, List.flatten_nil]
              refine (ih (by omega)).append ⟨?_, fun j hj => ?_⟩
              · simp; exact (hl n hlt).symm
              · have hj' : j < sz := by have := hl n hlt; omega
                have := hr n hlt j hj
                simpa [List.getD, hj'] using this
          have := this ys.length (Nat.le_refl _)
          simpa using this
        · intro j u hj
          rw [add_plain]
          have hjl := (List.getElem?_eq_some_iff.1 hj).1
          have hflat : ∀ (n : Nat), (((List.range n).map fun i => (List.range sz).map fun j => vs i j).flatten).length = n * sz := by
            intro n
            induction n with
            | zero => simp
            | succ n ih => rw [List.range_succ]; simp only [List.map_append, List.flatten_append, List.length_append, ih, List.map_cons, List.map_nil, List.flatten_cons, List.flatten_nil, List.append_nil, List.length_map, List.length_range, Nat.succ_mul]
          have hget : ∀ (n i j : Nat), i < n → j < sz → (((List.range n).map fun i => (List.range sz).map fun j => vs i j).flatten)[i * sz + j]? = some (vs i j) := by
            intro n
            induction n with
            | zero => intro i j h; omega
            | succ n ih =>
              intro i j hi hj
              rw [List.range_succ]
              simp only [List.map_append, List.flatten_append, List.map_cons, List.map_nil, List.flatten_cons, List.flatten_nil, List.append_nil]
              by_cases c : i < n
              · have : i * sz + j < n * sz := by have := Nat.mul_le_mul_right sz c; rw [Nat.succ_mul] at this; omega
                rw [List.getElem?_append_left (by rw [hflat]; exact this)]
                exact ih i j c hj
              · have : i = n := by omega
                subst this
                rw [List.getElem?_append_right (by rw [hflat]; omega), hflat]
                simp [hj]
          rw [hflat] at hjl
          have hsp : 0 < sz := by
            rcases Nat.eq_zero_or_pos sz with h | h
            · subst h; simp at hjl
            · exact h
          have hd := Nat.div_add_mod j sz
          have hm := Nat.mod_lt j hsp
          have hdl : j / sz < ys.length := (Nat.div_lt_iff_lt_mul hsp).2 hjl
          have h1 := hget ys.length (j / sz) (j % sz) hdl hm
          rw [Nat.mul_comm, hd] at h1
          rw [h1] at hj
          have h2 := hc (j / sz) hdl (j % sz) hm
          rw [← Option.some.inj hj, ← h2]
          congr 2
          rw [Nat.add_assoc, Nat.mul_comm, hd]
    · cases hq
  · rename_i e1 ys1
    exact absurd rfl (hn e1 ys1)
  · rename_i id
    have hq1 := ask_inv hq
    clear hq
    obtain ⟨l', hq, -⟩ := hq1
    split at hq
    · rename_i e0 ys hb
      split at hq
      · rename_i h
        obtain rfl := Nat.eq_of_beq_eq_true h
        obtain ⟨sz, vs, hsz, hown, hr, hl⟩ := hR.m.blks id _ hb
        refine ⟨_, vs, l', hq, hr, ?_⟩
        cases hx with
        | osl id A n cap hlv hs =>
          have hown' : w.ownsRow 0 e0 sz (sv id) ys.length vs := hown
          have hs' : sv id = .slice A n cap := hs
          rcases hown'.2 with ⟨h1, h2⟩ | ⟨g, cap', cur, h1, _, hh, r1, r2, r3, r4⟩
          · rw [hs'] at h1
            simp only [Value.slice.injEq] at h1
            obtain ⟨rfl, rfl, rfl⟩ := h1
            exact .inr ⟨0, rfl, List.eq_nil_of_length_eq_zero h2⟩
          · rw [hs'] at h1
            simp only [Value.slice.injEq] at h1
            obtain ⟨rfl, rfl, rfl⟩ := h1
            refine .inl ⟨_, cap, rfl, fun j u hj => ?_⟩
            rw [add_plain]
            show w.cell? _ = _
            rw [cell_of_row w g _ _ e0 _ hh, ← hj, ← r4, Nat.zero_add]
            have hjl := (List.getElem?_eq_some_iff.1 hj).1
            rw [hown'.1] at hjl
            rw [List.getElem?_take, if_pos hjl]; simp
      · cases hq
    · cases hq
  · rename_i id sz lo n
    have hq1 := ask_inv hq
    clear hq
    obtain ⟨l', hq, -⟩ := hq1
    split at hq
    · rename_i e0 ys hb
      split at hq
      · rename_i h hsi
        obtain rfl := Nat.eq_of_beq_eq_true h
        obtain ⟨sz', vs, hsz, hown, hr, hl⟩ := hR.m.blks id _ hb
        obtain rfl := sizeIs_eq hsi hsz
        have hown' : w.ownsRow 0 e0 sz' (sv id) ys.length vs := hown
        cases hx with
        | sub0 _ _ _ A cap hA =>
          refine ⟨_, [], l', hq, by simp [Reps], ?_⟩
          simp only [List.take_zero]
          cases A with
          | none => rw [hA rfl]; exact .inr ⟨0, rfl, by simp⟩
          | some ad => exact .inl ⟨ad, cap, rfl, by simp⟩
        | sub _ _ _ _ g N cap cap' hlv hs hn hc =>
          have hs' : sv id = .slice (some ⟨g, 0, none⟩) N cap := hs
          rcases hown'.2 with ⟨h1, h2⟩ | ⟨g', cap2, cur, h1, _, hh, r1, r2, r3, r4⟩
          · rw [hs'] at h1; cases h1
          · rw [hs'] at h1
            simp only [Value.slice.injEq, Option.some.injEq, Addr.mk.injEq] at h1
            obtain ⟨⟨rfl, _⟩, rfl, rfl⟩ := h1
            have hlen : ((ys.drop lo).take n).length = n := by simp; omega
            have hfl := flat_len (E.enc e0) sz' ys hl
            have hdt : ∀ (zs : List (G e0)) (q : Nat), (∀ x ∈ zs, (E.enc e0 x).length = sz') → (zs.flatMap (E.enc e0)).drop (q * sz') = (zs.drop q).flatMap (E.enc e0) := by
              intro zs
              induction zs with
              | nil => intro q _; simp
              | cons z zs ih =>
                intro q hz
                cases q with
                | zero => simp
                | succ q =>
                  simp only [List.flatMap_cons, List.drop_succ_cons]
                  rw [Nat.succ_mul, Nat.add_comm, ← List.drop_drop]
                  rw [← hz z (by simp), List.drop_left, hz z (by simp)]
                  exact ih q fun x hx => hz x (by simp [hx])
            have htt : ∀ (zs : List (G e0)) (q : Nat), (∀ x ∈ zs, (E.enc e0 x).length = sz') → (zs.flatMap (E.enc e0)).take (q * sz') = (zs.take q).flatMap (E.enc e0) := by
              intro zs
              induction zs with
              | nil => intro q _; simp
              | cons z zs ih =>
                intro q hz
                cases q with
                | zero => simp
                | succ q =>
                  simp only [List.flatMap_cons, List.take_succ_cons]
                  rw [Nat.succ_mul, Nat.add_comm, ← hz z (by simp), List.take_length_add_append, hz z (by simp)]
                  rw [ih q fun x hx => hz x (by simp [hx])]
            have hr2 := (hr.drop (lo * sz')).take (n * sz')
            have e2 : ((ys.flatMap (E.enc e0)).drop (lo * sz')).take (n * sz') = ((ys.drop lo).take n).flatMap (E.enc e0) := by
              rw [hdt ys lo hl, htt _ n fun x hx => hl x (List.mem_of_mem_drop hx)]
            refine ⟨_, (vs.drop (lo * sz')).take (n * sz'), l', hq, e2 ▸ hr2, .inl ⟨⟨g, lo * sz', none⟩, cap', ?_, fun j u hj => ?_⟩⟩
            · rw [hlen]
            · rw [add_plain]
              show w.cell? _ = _
              rw [cell_of_row w g _ _ e0 _ hh, ← hj, ← r4]
              have hjl := (List.getElem?_eq_some_iff.1 hj).1
              have hj1 : j < n * sz' := by simp at hjl; omega
              have hle : lo * sz' + n * sz' ≤ ys.length * sz' := by rw [← Nat.add_mul]; exact Nat.mul_le_mul_right _ hn
              rw [List.getElem?_take, if_pos hj1, List.getElem?_drop, List.getElem?_take, if_pos (by omega)]; simp
      · cases hq
    · cases hq
  · rename_i id off n
    have hq1 := ask_inv hq
    clear hq
    obtain ⟨l', hq, -⟩ := hq1
    split at hq
    · rename_i t' cs sz hb hsz
      split at hq
      · rename_i ys hdec hle
        have hle' := Nat.le_of_ble_eq_true hle
        obtain ⟨vs, hv, hr⟩ := hR.m.blks id _ hb
        have hrs := (hr.drop off).take (n * sz)
        have hl1 : ((cs.drop off).take (n * sz)).length = n * sz := by simp; omega
        have hl2 : ((vs.drop off).take (n * sz)).length = n * sz := by rw [hrs.1, hl1]
        obtain ⟨h2, h1⟩ := decAll_ok hE (c := st.cx P E fc bl sv w) (chunks sz n ((cs.drop off).take (n * sz))) ys (chunks sz n ((vs.drop off).take (n * sz))) hdec (by rw [chunks_len, chunks_len]) (chunks_reps sz n _ _ hrs)
        rw [chunks_flat sz n _ hl2] at h2
        rw [chunks_len] at h1
        refine ⟨ys, (vs.drop off).take (n * sz), l', hq, h2, ?_⟩
        cases hx with
        | asl _ _ _ cap hlv hc =>
          refine .inl ⟨⟨bl id, off, none⟩, cap, by rw [h1]; rfl, fun j u hj => ?_⟩
          rw [add_plain]
          show w.cell? _ = _
          have hv : w.heap[bl id]? = some (.cells vs.toArray t' (0, 0)) := hv
          have hjl := (List.getElem?_eq_some_iff.1 hj).1
          rw [hl2] at hjl
          rw [List.getElem?_take, if_pos hjl, List.getElem?_drop] at hj
          have hlt := (List.getElem?_eq_some_iff.1 hj).1
          rw [cell_fix hv (off + j) hlt]
          simp [List.getD, hj]
      · cases hq
    · cases hq
  · cases hq

theorem elems_inv (hE : EnvOk P E) (hR : Rel P E fc bl sv st a w) {el : Nat} {x : AV G} {v : Value} {k : List (G el) → Q G (Eff G)} (hx : Rep (st.cx P E fc bl sv w) x v) {e : Eff G} {l : List Nat} (hq : (elemsQ P E el x k).trace st.blk = some (e, l)) :
    ∃ ys news l', (k ys).trace st.blk = some (e, l') ∧ Holds (st.cx P E fc bl sv w) el v ys news := by
  by_cases h : ∃ e ys, x = .rosn e ys
  · obtain ⟨e1, ys1, rfl⟩ := h
    exact elems_inv0 hE hR (x := .ros e1 ys1) (fun _ _ h => by cases h) hx.rosn_ros hq
  · exact elems_inv0 hE hR (fun e1 ys1 he => h ⟨e1, ys1, he⟩) hx hq

theorem byteOf_inv {cs : List (AV G)} {b : UInt8} (h : byteOf cs = some b) : ∃ n : Int, cs = [.int .u8 n] ∧ b = UInt8.ofNat n.toNat := by
  unfold byteOf at h
  split at h
  · exact ⟨_, rfl, (Option.some.inj h).symm⟩
  · cases h
theorem str_reps {α : Type} {c : Cx G} {f : α → List (AV G)} : ∀ (ys : List α) (l : List UInt8) (news : List Value), strOf f ys = some l → Reps c (ys.flatMap f) news →
    ∃ ns : List Int, news = ns.map (Value.int .u8) ∧ l = ns.map (fun n => UInt8.ofNat n.toNat) ∧ ns.length = ys.length := by
  intro ys
  induction ys with
  | nil =>
    intro l news h hr
    obtain rfl := Option.some.inj h
    exact ⟨[], hr.nil_inv, rfl, rfl⟩
  | cons y ys ih =>
    intro l news h hr
    unfold strOf at h
    split at h
    · rename_i b l' hb hl
      obtain rfl := Option.some.inj h
      obtain ⟨n, hn, rfl⟩ := byteOf_inv hb
      rw [List.flatMap_cons, hn, List.singleton_append] at hr
      obtain ⟨v, vs', rfl, hv, hr'⟩ := hr.cons_inv
      obtain rfl := hv.int_inv
      obtain ⟨ns, h1, h2, h3⟩ := ih l' vs' hl hr'
      exact ⟨n :: ns, by rw [h1]; rfl, by rw [h2]; rfl, by simp [h3]⟩
    · cases h
theorem fold_push (f : Int → UInt8) : ∀ (ns : List Int) (s : ByteArray), ns.foldl (fun r n => r.push (f n)) s = ⟨s.data ++ (ns.map f).toArray⟩ := by
  intro ns
  induction ns with
  | nil => intro s; simp
  | cons n ns ih =>
    intro s
    rw [List.foldl_cons, ih]
    have : (s.push (f n)).data = s.data.push (f n) := rfl
    rw [this]
    simp
theorem convS_ok (hE : EnvOk P E) (hR : Rel P E fc bl sv st a w) {s d : Nat} {x : AV G} {v : Value} (hx : Rep (st.cx P E fc bl sv w) x v) {e : Eff G} {l : List Nat} (hq : (convS P E s d x).trace st.blk = some (e, l)) :
    ∃ r, (convert s d v).run P w = .ok r w ∧ Out P E fc bl sv st w e r w := by
  unfold convS at hq
  split at hq
  · rename_i el hs hd
    split at hq
    · rename_i hk
      obtain ⟨ys, news, l', hq, hr, hv⟩ := elems_inv hE hR hx hq
      obtain ⟨bs, hbs, hq⟩ := opt_inv hq
      obtain rfl := pureE_inv hq
      obtain ⟨ns, rfl, rfl, hl⟩ := str_reps ys bs news hbs hr
      have hu := intKind?_inv hk
      rcases hv with ⟨ad, cap, rfl, hc⟩ | ⟨cap, rfl, rfl⟩
      · refine ⟨_, ?_, Out.pure hR.m (.str _)⟩
        rw [run_convert_bytes_string w s d el (some ad) ys.length cap hs hu hd, run_bytesToString w ad ys.length cap ns ?_, fold_push]
        · rw [show ByteArray.empty.data = #[] from rfl, Array.empty_append]
        · have := run_loadCells_list (P := P) w ad (ns.map (Value.int .u8)) (fun j u hj => hc j u hj)
          rw [List.length_map, hl] at this
          exact this
      · refine ⟨_, ?_, Out.pure hR.m (.str _)⟩
        rw [run_convert_bytes_string w s d el none 0 cap hs hu hd]
        obtain rfl : ns = [] := List.eq_nil_of_length_eq_zero (by simpa using hl)
        simp [Conv.bytesToString]
        rfl
    · cases hq
  · exact conv_ok hR hx hq
theorem flat_get {α β : Type} (f : α → List β) (sz : Nat) (xs : List α) (h : ∀ x ∈ xs, (f x).length = sz) (i j : Nat) (hi : i < xs.length) (hj : j < sz) : (xs.flatMap f)[i * sz + j]? = (f xs[i])[j]? := by
  have := flat_at f sz xs h i xs[i] (List.getElem?_eq_getElem hi)
  rw [← this, List.getElem?_take, if_pos hj, List.getElem?_drop]
theorem arrayAt_run {t len el n cap : Nat} {A : Option Addr} (hu : P.underlying t = some (.array len el)) (h : len ≤ n) : (Instr.arrayAt t (.slice A n cap)).run P w = .ok (.pointer A) w := by
  simp [Instr.arrayAt, run_underlying hu, Nat.not_lt.2 h]
theorem sap_ok (hR : Rel P E fc bl sv st a w) {t : Nat} {x : AV G} {v : Value} (hx : Rep (st.cx P E fc bl sv w) x v) {e : Eff G} {l : List Nat} (hq : (sapQ P E t x).trace st.blk = some (e, l)) :
    ∃ r, (Instr.arrayAt t v).run P w = .ok r w ∧ Out P E fc bl sv st w e r w := by
  unfold sapQ at hq
  split at hq
  · rename_i len el hu
    split at hq
    · cases hq
    · rename_i hle
      have hle' := Nat.le_of_ble_eq_true hle
      split at hq
      · rename_i e0 xs
        split at hq
        · rename_i hbeq
          obtain rfl := Nat.eq_of_beq_eq_true hbeq
          obtain ⟨hl, hq⟩ := gets_inv _ _ _ hq
          obtain rfl := pureE_inv hq
          rw [List.drop_zero] at hl ⊢
          have hlen : len ≤ xs.length := by rw [List.length_take] at hl; omega
          cases hx with
          | ros0 => simp at hlen; omega
          | ros e0 xs b off cap sz vs hsz hb ho hc hle2 hr hcap =>
            refine ⟨_, arrayAt_run hu hlen, Out.pure hR.m ?_⟩
            have hall : ∀ y ∈ xs, (E.enc e0 y).length = sz := fun y hy => by
              obtain ⟨i, hi, rfl⟩ := List.getElem_of_mem hy
              exact hle2 i hi
            have hallt : ∀ y ∈ xs.take len, (E.enc e0 y).length = sz := fun y hy => hall y (List.mem_of_mem_take hy)
            have hfl := flat_len (E.enc e0) sz (xs.take len) hallt
            rw [hl] at hfl
            have key : ∀ j, j < ((xs.take len).flatMap (E.enc e0)).length → 0 < sz ∧ j / sz < len ∧ j % sz < sz ∧ j / sz * sz + j % sz = j := by
              intro j hj
              rw [hfl] at hj
              have hs : 0 < sz := Nat.pos_of_ne_zero fun h0 => by subst h0; simp at hj
              refine ⟨hs, (Nat.div_lt_iff_lt_mul hs).2 hj, Nat.mod_lt _ hs, ?_⟩
              rw [Nat.mul_comm]; exact Nat.div_add_mod j sz
            refine .rop b off _ (fun j => vs (j / sz) (j % sz)) hb ho (fun j hj => ?_) (fun j hj => ?_)
            · obtain ⟨h1, h2, h3, h4⟩ := key j hj
              have := hc (j / sz) (by omega) (j % sz) h3
              rwa [Nat.add_assoc, h4] at this
            · obtain ⟨h1, h2, h3, h4⟩ := key j hj
              have hi : j / sz < xs.length := by omega
              have hg := flat_get (E.enc e0) sz (xs.take len) hallt (j / sz) (j % sz) (by omega) h3
              rw [h4] at hg
              have hx2 : (xs.take len)[j / sz]'(by omega) = xs[j / sz] := by simp
              rw [hx2, List.getElem?_eq_getElem hj] at hg
              have h5 : j % sz < (E.enc e0 xs[j / sz]).length := by rw [hall _ (List.getElem_mem hi)]; exact h3
              rw [List.getElem?_eq_getElem h5] at hg
              have h6 := Option.some.inj hg
              rw [h6]
              exact hr (j / sz) hi (j % sz) h5
        · cases hq
      · rename_i id sz lo m
        split at hq
        · rename_i hsi
          obtain ⟨u, hu2, hq⟩ := opt_inv hq
          have hm := of_decide_eq_true (chk_inv hu2)
          obtain rfl := pureE_inv hq
          cases hx with
          | sub0 => omega
          | sub _ _ _ _ g N cap cap' hlv hs hn hc =>
            exact ⟨_, arrayAt_run hu hm, Out.pure hR.m (.optr id lo sz 0 g N cap hlv hs)⟩
        · cases hq
      · rename_i id
        split at hq
        · rename_i sz hsz
          have hq1 := ask_inv hq
          clear hq
          obtain ⟨l', hq, -⟩ := hq1
          split at hq
          · rename_i e0 xs hb
            split at hq
            · rename_i hbeq
              obtain rfl := Nat.eq_of_beq_eq_true hbeq
              obtain ⟨u, hu2, hq⟩ := opt_inv hq
              have hm := of_decide_eq_true (chk_inv hu2)
              obtain rfl := pureE_inv hq
              obtain ⟨sz', vs, g, cap, cur, hsz', hv, _⟩ := row_at hR.m hb (List.getElem?_eq_getElem (show 0 < xs.length by omega))
              cases hx with
              | osl id A nn cap' hlv hs =>
                have hs' : sv id = .slice A nn cap' := hs
                rw [hv] at hs'
                simp only [Value.slice.injEq] at hs'
                obtain ⟨rfl, rfl, rfl⟩ := hs'
                have := Rep.optr (c := st.cx P E fc bl sv w) id 0 sz 0 g xs.length cap hlv hv
                rw [show 0 * sz + 0 = 0 by omega] at this
                exact ⟨_, arrayAt_run hu hm, Out.pure hR.m this⟩
            · cases hq
          · cases hq
        · cases hq
      · cases hq
  · cases hq

theorem append_run (hE : EnvOk P E) {t ty el bytes sz : Nat} (hu : P.underlying t = some (.slice el)) (hb : bytesOf? P el = some bytes) (hsz : sizeOf? P el = some sz) {s x : Value} {xs ys : List (G el)} {vs news : List Value} (hown : w.ownsRow 0 el sz s xs.length vs)
    {c : Cx G} (hc : c.w = w) (hcE : c.E = E) (hx : Holds c el x ys news) (hlim : (xs.length + ys.length) * bytes ≤ 140737488355328) :
    ∃ v' w', (Builtin.append_ #[t, t] ty #[s, x]).run P w = .ok v' w' ∧ w'.ownsRow 0 el sz v' (xs ++ ys).length (vs ++ news) ∧ w.grownBy w' s.ownBlock ∧ (∀ g, v'.ownBlock = some g → s.ownBlock = some g ∨ w.heap.size ≤ g) := by
  obtain ⟨i, z, hi, hz, hzs, hpos, hby, hbp⟩ := bytesOf?_inv hb
  have hsi : i.size = sz := by have := hsz; unfold sizeOf? at this; rw [hi] at this; simpa using this
  obtain ⟨hr, hx⟩ := hx
  have hl : ∀ y ∈ ys, (c.E.enc el y).length = sz := fun y _ => by rw [hcE]; exact hE.len el y sz hsz
  have hnl : news.length = ys.length * sz := by rw [hr.1]; exact flat_len _ _ _ hl
  rw [List.length_append]
  rcases hx with ⟨ad, cap, rfl, hcell⟩ | ⟨cap, rfl, rfl⟩
  · have hm : xs.length + ys.length ≤ maxLen := by
      simp only [maxLen]
      have := Nat.le_mul_of_pos_right (xs.length + ys.length) hbp
      omega
    have hone : ∀ u ∈ news, u.oneCell' = true := hr.one (by
      rw [List.all_eq_true]
      intro av hav
      obtain ⟨y, hy, hav⟩ := List.mem_flatMap.1 hav
      rw [hcE] at hav
      exact List.all_eq_true.1 (hE.one el y) av hav)
    obtain ⟨v', w', h1, h2, h3, h4, h5⟩ := run_append_own_at (P := P) w 0 t ty el i z sz bytes hu hi hz hsi hby (by rw [hzs]; exact hsi) (by omega) s xs.length vs hown ad ys.length cap news hnl (fun j u hj => by rw [← hc]; exact hcell j u hj) hone hm hlim (Nat.zero_le _)
    refine ⟨v', w', h1, h2, h3, fun g hg => ?_⟩
    rcases h5 with h5 | h5
    · exact .inl (h5 ▸ hg)
    · rw [h5] at hg; exact .inr (Nat.le_of_eq (Option.some.inj hg))
  · obtain rfl : news = [] := List.eq_nil_of_length_eq_zero (by simpa using hnl)
    refine ⟨s, w, ?_, by simpa using hown, grownBy_refl w _, fun g hg => .inl hg⟩
    have hcap : ∃ A n cp, s = .slice A n cp ∧ n ≤ cp := by
      rcases hown.2 with ⟨h1, _⟩ | ⟨g, cap', cur, h1, _, _, h2, _⟩
      · exact ⟨none, 0, 0, h1, Nat.le_refl _⟩
      · exact ⟨_, _, _, h1, h2⟩
    obtain ⟨A, n, cp, rfl, hle⟩ := hcap
    have hle' : n + 0 ≤ cp := hle
    cases A <;> simp [Builtin.append_, run_underlying hu, run_sizeOf? hsz, Builtin.lenOf, hle, Builtin.firstCells, storeCells]

theorem append_ok (hE : EnvOk P E) (hR : Rel P E fc bl sv st a w) {t u ty base : Nat} (hf : st.blk base = none) {s x : AV G} {v y : Value} (hs : Rep (st.cx P E fc bl sv w) s v) (hx : Rep (st.cx P E fc bl sv w) x y) {e : Eff G} {l : List Nat} (hq : (appendQ P E t u s x base).trace st.blk = some (e, l)) :
    ∃ r w', (Builtin.append_ #[t, u] ty #[v, y]).run P w = .ok r w' ∧ Out P E fc bl sv st w e r w' := by
  unfold appendQ at hq
  split at hq
  · rename_i el hu htu
    obtain rfl := Nat.eq_of_beq_eq_true htu
    split at hq
    · rename_i bytes hb
      obtain ⟨i, z, hi, hz, hzs, hpos, hby, hbp⟩ := bytesOf?_inv hb
      have hsz : sizeOf? P el = some i.size := by unfold sizeOf?; rw [hi]; rfl
      split at hq
      · obtain rfl := hs.nilsl_inv
        obtain ⟨ys, news, l', hq, hh⟩ := elems_inv hE hR hx hq
        obtain ⟨_, hc, hq⟩ := opt_inv hq
        have hlim := of_decide_eq_true (chk_inv hc)
        simp only [Q.trace, Option.some.injEq, Prod.mk.injEq] at hq
        obtain ⟨rfl, _⟩ := hq
        obtain ⟨v', w', h1, h2, h3, h4⟩ := append_run (ty := ty) (xs := []) (vs := []) hE hu hb hsz (World.ownsRow_nil w 0 el i.size) rfl rfl hh (by simpa using hlim)
        refine ⟨v', w', h1, ?_⟩
        have := out_row hR.m hf [] (by simp) hsz h2 h3 (by simp [Value.ownBlock]) h4 hh.1 (fun y _ => hE.len el y _ hsz) (run_drawn _ _ _ _ h1)
        simpa using this
      · rename_i id
        have hq1 := ask_inv hq
        clear hq
        obtain ⟨l', hq, -⟩ := hq1
        split at hq
        · rename_i e0 xs hbk
          split at hq
          · rename_i h
            obtain rfl := Nat.eq_of_beq_eq_true h
            obtain ⟨ys, news, l', hq, hh⟩ := elems_inv hE hR hx hq
            obtain ⟨_, hc, hq⟩ := opt_inv hq
            have hlim := of_decide_eq_true (chk_inv hc)
            simp only [Q.trace, Option.some.injEq, Prod.mk.injEq] at hq
            obtain ⟨rfl, _⟩ := hq
            obtain ⟨sz, vs, hsz', hown, hr, hl⟩ := hR.m.blks id _ hbk
            have hszz : sz = i.size := by
              have hh1 : sizeOf? P e0 = some sz := hsz'
              rw [hsz] at hh1; exact (Option.some.inj hh1).symm
            subst hszz
            have hsv : v = sv id := by
              cases hs with
              | osl id A n cap hlv hs' => exact hs'.symm
            subst hsv
            have hown' : w.ownsRow 0 e0 i.size (sv id) xs.length vs := hown
            obtain ⟨v', w', h1, h2, h3, h4⟩ := append_run (ty := ty) hE hu hb hsz hown' rfl rfl hh hlim
            refine ⟨v', w', h1, ?_⟩
            have := out_row hR.m hf [id] (by simp [hbk]) hsz h2 h3 (fun g hg => ⟨id, by simp, by unfold owns; rw [hbk]; exact hg⟩) h4 (by
              rw [List.flatMap_append]; exact Reps.append hr hh.1) (fun y _ => hE.len e0 y _ hsz) (run_drawn _ _ _ _ h1)
            simpa using this
          · cases hq
        · cases hq
      · cases hq
    · cases hq
  · cases hq

theorem ofStr_get (s : ByteArray) : ∀ (xs : List Int) (j m : Nat), (ofStr (G := G) s j xs)[m]? = (xs[m]?).map fun x => .int .u8 (if j + m < s.size then byteI s (j + m) else x) := by
  intro xs
  induction xs with
  | nil => intro j m; rfl
  | cons x xs ih =>
    intro j m
    cases m with
    | zero => rfl
    | succ m => simp only [ofStr, List.getElem?_cons_succ, ih]; congr 1; funext y; rw [show j + 1 + m = j + (m + 1) by omega]
theorem ofStr_len (s : ByteArray) : ∀ (xs : List Int) (j : Nat), (ofStr (G := G) s j xs).length = xs.length := by
  intro xs
  induction xs with
  | nil => intro j; rfl
  | cons x xs ih => intro j; simp [ofStr, ih]
theorem copyStr_get (s : ByteArray) (n m : Nat) : ((s.extract 0 (Nat.min s.size n)).data.toList.map fun b => (AV.int (G := G) .u8 b.toNat))[m]? = if m < Nat.min s.size n then some (.int .u8 (byteI s m)) else none := by
  have hd : (s.extract 0 (Nat.min s.size n)).data = s.data.extract 0 (Nat.min s.size n) := by
    simp [ByteArray.data_extract]
  rw [List.getElem?_map, hd, Array.getElem?_toList, Array.getElem?_extract]
  have hsz : s.size = s.data.size := rfl
  have hle : Nat.min s.size n ≤ s.size := Nat.min_le_left _ _
  by_cases h : m < Nat.min s.size n
  · rw [if_pos h, if_pos (by omega), Nat.zero_add]
    unfold byteI
    rw [Array.getElem?_eq_getElem (show m < s.data.size by omega)]
    rfl
  · rw [if_neg h, if_neg (by omega)]; rfl
theorem copy_ok (hR : Rel P E fc bl sv st a w) {t u ty : Nat} {x y : AV G} {v z : Value} (hx : Rep (st.cx P E fc bl sv w) x v) (hy : Rep (st.cx P E fc bl sv w) y z) {e : Eff G} {l : List Nat} (hq : (copyQ P t x y).trace st.blk = some (e, l)) :
    ∃ r w', (Builtin.copy_ #[t, u] ty #[v, z]).run P w = .ok r w' ∧ Out P E fc bl sv st w e r w' := by
  unfold copyQ at hq
  split at hq
  · rename_i el id off n s hu
    obtain rfl := hy.str_inv
    split at hq
    · rename_i hsz
      have hq1 := ask_inv hq
      clear hq
      obtain ⟨l', hq, -⟩ := hq1
      split at hq
      · rename_i u' cs hb
        split at hq
        · rename_i xs hxs hle
          simp only [Q.trace, Option.some.injEq, Prod.mk.injEq] at hq
          obtain ⟨rfl, _⟩ := hq
          have hle' := Nat.le_of_ble_eq_true hle
          obtain ⟨vs, hv, hr⟩ := hR.m.blks id _ hb
          obtain ⟨g1, g2⟩ := intsOf_get hxs
          have hxl : xs.length = n := by rw [g1, List.length_take, List.length_drop]; omega
          cases hx with
          | asl _ _ _ cap hlv hc =>
            have hmin : Nat.min s.size n ≤ n := Nat.min_le_right _ _
            have hcl : ((s.extract 0 (Nat.min s.size n)).data.toList.map fun b => Value.int .u8 b.toNat).length = Nat.min s.size n := by
              have : s.size = s.data.size := rfl
              simp [ByteArray.data_extract]
            have hreps : Reps (st.cx P E fc bl sv w) ((s.extract 0 (Nat.min s.size n)).data.toList.map fun b => (AV.int (G := G) .u8 b.toNat)) ((s.extract 0 (Nat.min s.size n)).data.toList.map fun b => Value.int .u8 b.toNat) := by
              generalize (s.extract 0 (Nat.min s.size n)).data.toList = L
              induction L with
              | nil => exact Reps.nil _
              | cons b L ih => exact Reps.cons (.int _ _) ih
            have hv' : w.heap[bl id]? = some (.cells vs.toArray u' (0, 0)) := hv
            have hrun := run_storeCells_at P (bl id) off u' ((s.extract 0 (Nat.min s.size n)).data.toList.map fun b => Value.int .u8 b.toNat) 0 vs.toArray w hv' (by rw [hcl]; simp [hr.1]; omega) (by
              intro x hx
              obtain ⟨b, _, rfl⟩ := List.mem_map.1 hx
              rfl)
            rw [Nat.add_zero, hcl] at hrun
            have hcs : cs.take off ++ (ofStr s 0 xs ++ cs.drop (off + n)) = cs.take off ++ ((s.extract 0 (Nat.min s.size n)).data.toList.map fun b => (AV.int (G := G) .u8 b.toNat)) ++ cs.drop (off + Nat.min s.size n) := by
              rw [List.append_assoc]
              congr 1
              apply List.ext_getElem?
              intro m
              have hol : (ofStr (G := G) s 0 xs).length = n := by rw [ofStr_len, hxl]
              have hcl2 : ((s.extract 0 (Nat.min s.size n)).data.toList.map fun b => (AV.int (G := G) .u8 b.toNat)).length = Nat.min s.size n := by rw [List.length_map] at hcl ⊢; exact hcl
              by_cases c1 : m < Nat.min s.size n
              · have hms : m < s.size := Nat.lt_of_lt_of_le c1 (Nat.min_le_left _ _)
                rw [List.getElem?_append_left (by omega), List.getElem?_append_left (by omega), copyStr_get, if_pos c1, ofStr_get, List.getElem?_eq_getElem (show m < xs.length by omega)]
                simp only [Option.map_some, Nat.zero_add, if_pos hms]
              · rw [List.getElem?_append_right (l₁ := (s.extract 0 (Nat.min s.size n)).data.toList.map fun b => (AV.int (G := G) .u8 b.toNat)) (by omega), hcl2, List.getElem?_drop, show off + Nat.min s.size n + (m - Nat.min s.size n) = off + m by omega]
                by_cases c2 : m < n
                · have hms : ¬ m < s.size := by
                    intro hh
                    exact c1 (Nat.lt_min.2 ⟨hh, c2⟩)
                  have h6 := g2 m (by omega)
                  rw [List.getElem?_take, if_pos c2, List.getElem?_drop] at h6
                  rw [List.getElem?_append_left (by omega), ofStr_get, h6, List.getElem?_eq_getElem (show m < xs.length by omega)]
                  simp only [Option.map_some, Nat.zero_add, if_neg hms]
                  simp [List.getD, List.getElem?_eq_getElem (show m < xs.length by omega)]
                · rw [List.getElem?_append_right (by omega), hol, List.getElem?_drop, show off + n + (m - n) = off + m by omega]
            refine ⟨.int .i64 (Nat.min s.size n : Nat), w.setRow (bl id) (vs.take off ++ ((s.extract 0 (Nat.min s.size n)).data.toList.map fun b => Value.int .u8 b.toNat) ++ vs.drop (off + Nat.min s.size n)).toArray, ?_, ?_⟩
            rotate_left
            · rw [hcs]
              exact out_set hR.m hb (((hr.take off).append hreps).append (hr.drop (off + Nat.min s.size n))) (.int _ _)
            · have hfc : (Builtin.firstCells 1 (Nat.min s.size n) (.string s)).run P w = .ok (((s.extract 0 (Nat.min s.size n)).data.map fun b => Value.int .u8 b.toNat)) w := rfl
              have hso : (Go.sizeOf el).run P w = .ok 1 w := run_sizeOf? hsz
              have hrun2 : (storeCells ⟨bl id, off, none⟩ ((s.extract 0 (Nat.min s.size n)).data.map fun b => Value.int .u8 b.toNat).toList).run P w = .ok () (w.setRow (bl id) (vs.take off ++ ((s.extract 0 (Nat.min s.size n)).data.toList.map fun b => Value.int .u8 b.toNat) ++ vs.drop (off + Nat.min s.size n)).toArray) := by
                rw [Array.toList_map]; exact hrun
              show (Builtin.copy_ #[t, u] ty #[Value.slice (some ⟨bl id, off, none⟩) n cap, Value.string s]).run P w = _
              simp only [Builtin.copy_, List.getElem?_toArray, List.getElem?_cons_zero, List.getElem?_cons_succ, Sem.run_bind, run_underlying hu, Result.andThen_ok, Builtin.lenOf, Sem.run_pure, hso, hfc, hrun2]
              simp [goInt]
        · cases hq
      · cases hq
    · cases hq
  · cases hq

theorem len_ok (hR : Rel P E fc bl sv st a w) {t ty : Nat} {x : AV G} {v : Value} (hx : Rep (st.cx P E fc bl sv w) x v) {e : Eff G} {l : List Nat} (hq : (lenQ P t x).trace st.blk = some (e, l)) :
    ∃ r, (Builtin.len_ #[t] ty #[v]).run P w = .ok r w ∧ Out P E fc bl sv st w e r w := by
  unfold lenQ at hq
  split at hq
  · rename_i el e0 xs hu
    refine ok_of (m := hR.m) hq ?_ (.int _ _)
    cases hx <;> simp [Builtin.len_, run_underlying hu, goInt]
  · rename_i el id hu
    have hq1 := ask_inv hq
    clear hq
    obtain ⟨l', hq, -⟩ := hq1
    split at hq
    · rename_i e0 xs hb
      obtain ⟨sz, vs, hsz, hown, hr, hl⟩ := hR.m.blks id _ hb
      refine ok_of (m := hR.m) hq ?_ (.int _ _)
      cases hx with
      | osl id A n cap hlv hs =>
        have hown' : w.ownsRow 0 e0 sz (sv id) xs.length vs := hown
        have hs' : sv id = .slice A n cap := hs
        have hn : n = xs.length := by
          rcases hown'.2 with ⟨h1, h2⟩ | ⟨g, cap', cur, h1, _⟩
          · rw [hs'] at h1; simp only [Value.slice.injEq] at h1; omega
          · rw [hs'] at h1; simp only [Value.slice.injEq] at h1; exact h1.2.1
        simp [Builtin.len_, run_underlying hu, goInt, hn]
    · cases hq
  · rename_i el hu
    obtain rfl := hx.nilsl_inv
    exact ok_of (m := hR.m) hq (by simp [Builtin.len_, run_underlying hu, goInt]) (.int _ _)
  · rename_i el e0 xs hu
    refine ok_of (m := hR.m) hq ?_ (.int _ _)
    cases hx <;> simp [Builtin.len_, run_underlying hu, goInt]
  · rename_i el a1 a2 a3 n hu
    refine ok_of (m := hR.m) hq ?_ (.int _ _)
    cases hx <;> simp [Builtin.len_, run_underlying hu, goInt]
  · rename_i el a1 a2 n hu
    refine ok_of (m := hR.m) hq ?_ (.int _ _)
    cases hx <;> simp [Builtin.len_, run_underlying hu, goInt]
  · rename_i s hu
    obtain rfl := hx.str_inv
    exact ok_of (m := hR.m) hq (by simp [Builtin.len_, run_underlying hu, goInt]) (.int _ _)
  · rename_i n el hu
    exact ok_of (m := hR.m) hq (by simp [Builtin.len_, run_underlying hu, goInt]) (.int _ _)
  · cases hq

theorem fold_min : ∀ (r : List (AV G)) (vs : List Value) (c : Cx G) (k : IntKind) (x : Int) (res : AV G), foldI false k x r = some res → Reps c r vs → ∃ v, (vs.foldlM Builtin.min2 (.int k x)).run P w = .ok v w ∧ Rep c res v := by
  intro r
  induction r with
  | nil =>
    intro vs c k x res h hr
    obtain rfl := hr.nil_inv
    simp only [foldI, Option.some.injEq] at h
    subst h
    exact ⟨_, by simp, .int _ _⟩
  | cons y r ih =>
    intro vs c k x res h hr
    obtain ⟨v, vs', rfl, h1, h2⟩ := hr.cons_inv
    cases y with
    | int k' y =>
      obtain rfl := h1.int_inv
      simp only [foldI] at h
      split at h
      · obtain ⟨v, h3, h4⟩ := ih vs' c k _ res h h2
        exact ⟨v, by simpa [Builtin.min2] using h3, h4⟩
      · cases h
    | _ => simp [foldI] at h
theorem fold_max : ∀ (r : List (AV G)) (vs : List Value) (c : Cx G) (k : IntKind) (x : Int) (res : AV G), foldI true k x r = some res → Reps c r vs → ∃ v, (vs.foldlM Builtin.max2 (.int k x)).run P w = .ok v w ∧ Rep c res v := by
  intro r
  induction r with
  | nil =>
    intro vs c k x res h hr
    obtain rfl := hr.nil_inv
    simp only [foldI, Option.some.injEq] at h
    subst h
    exact ⟨_, by simp, .int _ _⟩
  | cons y r ih =>
    intro vs c k x res h hr
    obtain ⟨v, vs', rfl, h1, h2⟩ := hr.cons_inv
    cases y with
    | int k' y =>
      obtain rfl := h1.int_inv
      simp only [foldI] at h
      split at h
      · obtain ⟨v, h3, h4⟩ := ih vs' c k _ res h h2
        exact ⟨v, by simpa [Builtin.max2] using h3, h4⟩
      · cases h
    | _ => simp [foldI] at h

theorem madeCells_flat (z : Array Value) : ∀ k, (madeCells z (k * z.size)).toList = (List.replicate k z.toList).flatten := by
  intro k
  induction k with
  | zero => simp [madeCells]
  | succ k ih =>
    rw [List.replicate_succ', List.flatten_append, ← ih]
    simp only [madeCells, Array.toList_map, Array.toList_range, Nat.succ_mul, List.flatten_cons, List.flatten_nil, List.append_nil]
    rw [List.range_add, List.map_append]
    congr 1
    apply List.ext_getElem?
    intro j
    simp only [List.map_map, List.getElem?_map]
    by_cases hj : j < z.size
    · simp [hj, Nat.mul_add_mod_self_right, Nat.mod_eq_of_lt hj, getElem!_def]
    · simp [hj]
theorem made_reps (hE : EnvOk P E) {el : Nat} {z : G el} {i : TypeInfo} {zv : Value} (hz : E.zero el = some z) (hi : P.info? el = some i) (hzv : i.zero = some zv) {c : Cx G} : ∀ k, Reps c ((List.replicate k z).flatMap (E.enc el)) (List.replicate k zv.cells.toList).flatten := by
  intro k
  induction k with
  | zero => exact Reps.nil c
  | succ k ih =>
    rw [List.replicate_succ, List.replicate_succ]
    simp only [List.flatMap_cons, List.flatten_cons]
    exact (hE.zero el z i zv hz hi hzv c).append ih

theorem make_ok (hE : EnvOk P E) (hR : Rel P E fc bl sv st a w) {t base : Nat} (hf : st.blk base = none) {n m : AV G} {v u : Value} (hn : Rep (st.cx P E fc bl sv w) n v) (hm : Rep (st.cx P E fc bl sv w) m u) {e : Eff G} {l : List Nat} (hq : (makeQ P E t n m base).trace st.blk = some (e, l)) :
    ∃ r w', (Instr.makeSlice t v u).run P w = .ok r w' ∧ Out P E fc bl sv st w e r w' := by
  unfold makeQ at hq
  split at hq
  · rename_i el n m hu
    obtain rfl := hn.int_inv
    obtain rfl := hm.int_inv
    split at hq
    · rename_i bytes z hb hz
      obtain ⟨_, hc, hq⟩ := opt_inv hq
      obtain ⟨h0, hnm, hlim, h63⟩ := of_decide_eq_true (chk_inv hc)
      simp only [Q.trace, Option.some.injEq, Prod.mk.injEq] at hq
      obtain ⟨rfl, _⟩ := hq
      obtain ⟨i, zv, hi, hzv, hzs, hpos, hby, hbp⟩ := bytesOf?_inv hb
      have hsz : sizeOf? P el = some i.size := by unfold sizeOf?; rw [hi]; rfl
      obtain ⟨k, rfl⟩ := Int.eq_ofNat_of_zero_le h0
      obtain ⟨c, rfl⟩ := Int.eq_ofNat_of_zero_le (Int.le_trans h0 hnm)
      have hkc : k ≤ c := by omega
      have hlim' : c * bytes ≤ 140737488355328 := by
        have h9 : ((c * bytes : Nat) : Int) ≤ 140737488355328 := by rw [Int.natCast_mul]; exact hlim
        omega
      have hb9 : (i.bytes : Int) * (c : Int) ≤ 281474976710656 := by
        rw [hby, Int.mul_comm, ← Int.natCast_mul]; omega
      have h1 := run_make (P := P) w t el i zv hu hi hzv .i64 .i64 (k : Int) (c : Int) h0 hnm hb9 h63
      simp only [Int.toNat_natCast] at h1
      refine ⟨_, _, h1, ?_⟩
      have hcell : Reps (st.cx P E fc bl sv w) ((List.replicate k z).flatMap (E.enc el)) (madeCells zv.cells (k * i.size)).toList := by
        rw [← hzs, madeCells_flat]
        exact made_reps hE hz hi hzv k
      have h2 : (w.alloc (.cells (madeCells zv.cells (c * i.size)) el)).ownsRow 0 el i.size (.slice (some ⟨w.heap.size, 0, none⟩) k c) k (madeCells zv.cells (k * i.size)).toList := by
        refine ⟨by simp [madeCells], .inr ⟨w.heap.size, c, madeCells zv.cells (c * i.size), rfl, Nat.zero_le _, (by show (w.heap.push _)[w.heap.size]? = _; simp), hkc, by unfold maxLen; omega, size_madeCells _ _, ?_⟩⟩
        unfold madeCells
        have hle : k * i.size ≤ c * i.size := Nat.mul_le_mul_right _ hkc
        simp only [Array.toList_map, Array.toList_range, ← List.map_take, List.take_range, Nat.min_eq_left hle]
      have h2' : (w.alloc (.cells (madeCells zv.cells (c * i.size)) el)).ownsRow 0 el i.size (.slice (some ⟨w.heap.size, 0, none⟩) k c) (List.replicate (k : Int).toNat z).length (madeCells zv.cells (k * i.size)).toList := by simpa using h2
      have := out_row hR.m hf [] (by simp) hsz h2' (World.grownBy_alloc w _ none) (by simp) (fun g hg => .inr (by simp only [Value.ownBlock, Option.some.injEq] at hg; omega)) (by simpa using hcell) (fun y _ => hE.len el y _ hsz)
      simpa using this
    · cases hq
  · cases hq
end
end Go.Proofs.Ytemdppcnhlnicaa.Ev
