/- Functions, known as functions on terms. -/
import Derived.Test.YtneiaaalbpjgiaaEvS
set_option linter.unusedVariables false
set_option linter.unusedSimpArgs false
namespace Go.Proofs.Ytneiaaalbpjgiaa.Ev
open Go Go.RowKit
variable {G : Nat → Type}

theorem lk_zipS {c : Cx G} (g : Nat → Value) : ∀ (ds : List Nat) (as : List (AV G)), Reps c as (ds.map g) → ∀ d a, lk (zipS ds as) d = some a → Rep c a (g d) := by
  intro ds
  induction ds with
  | nil => intro as _ d a h; cases as <;> simp [zipS, lk] at h
  | cons x ds ih =>
    intro as hr d a h
    cases as with
    | nil => simp [zipS, lk] at h
    | cons b as =>
      obtain ⟨v, vs, hv, h1, h2⟩ := hr.cons_inv
      simp only [List.map_cons, List.cons.injEq] at hv
      obtain ⟨rfl, rfl⟩ := hv
      simp only [zipS, lk_cons] at h
      split at h
      · rename_i hh; subst hh; simp only [Option.some.injEq] at h; subst h; exact h1
      · exact ih as h2 d a h

section
variable {P : Program} {E : Env G} {C : Oracle G} {fc : FC} {st : St G} {a : Act} {w : World}

theorem cut_ok (hE : EnvOk P E) {R V : Type} {slots : List (Nat × Pat)} {foot : List Pat} {dec : List (AV G) → List (Nat × Blk G) → Option V} {enc : V → List (AV G) × List (Nat × Blk G)} {K : V → Option R} {r : R}
    (hdec : ∀ as hp v, dec as hp = some v → enc v = (as, hp)) (hfoot : ∀ j, fc.an j → ∃ p ∈ foot, footN p = j) (h : cutK P slots foot dec K st = some r) (hb : Bears P E fc st a w) :
    ∃ v, K v = some r ∧ Bears P E fc (cutSt slots (enc v)) a w := by
  obtain ⟨hok, bl, sv, hR⟩ := hb
  unfold cutK at h
  obtain ⟨v, bl', sv', hk, hlt, _, hm⟩ := tell_ok (vals := slots.map fun p => a.tmps.getD p.1 undef) hE hR.m (by
    intro vs l hq
    obtain rfl := ret_inv hq
    exact ⟨by simp, fun j hj => by
      have hj' : j < slots.length := by simpa using hj
      simpa [List.getD, hj'] using hR.tmps slots[j].1⟩) hdec hfoot h
  obtain ⟨m, rs⟩ := hm (cutSt slots (enc v)) rfl
  refine ⟨v, hk, ?_, bl', sv', m, hR.defers, hR.size, fun d => ?_⟩
  · intro id hid
    show lk (enc v).2 id = none
    cases hh : lk (enc v).2 id with
    | none => rfl
    | some b => have := hlt id (by rw [hh]; rfl); have hid' : stride ≤ id := hid; omega
  · unfold St.get
    cases hh : lk (cutSt slots (enc v)).tmps d with
    | none => exact .any _
    | some x =>
      have hh' : lk (zipS (slots.map (·.1)) (enc v).1) d = some x := hh
      refine lk_zipS (fun d => a.tmps.getD d undef) (slots.map (·.1)) (enc v).1 ?_ d x hh'
      have e : (slots.map (·.1)).map (fun d => a.tmps.getD d undef) = slots.map fun p => a.tmps.getD p.1 undef := by simp
      rw [e]; exact rs

/-! ### Cuts -/
theorem todo_sub : ∀ (c : Code) (k : List Item), ∀ p ∈ cutsC c k, ∀ q ∈ cutsT p.2, q ∈ cutsC c k ∨ q ∈ cutsT k := by
  intro c
  induction c with
  | region id ops d =>
    intro k p hp q hq
    simp only [cutsC, List.mem_singleton] at hp
    subst hp
    simpa [cutsT, cutsC] using hq
  | seq c1 c2 ih1 ih2 =>
    intro k p hp q hq
    simp only [cutsC, List.mem_append] at hp ⊢
    rcases hp with hp | hp
    · rcases ih1 _ p hp q hq with h | h
      · exact .inl (.inl h)
      · simp only [cutsT, List.mem_append] at h
        rcases h with h | h
        · exact .inl (.inr h)
        · exact .inr h
    · rcases ih2 _ p hp q hq with h | h
      · exact .inl (.inr h)
      · exact .inr h
  | cond x c1 c2 ih1 ih2 =>
    intro k p hp q hq
    simp only [cutsC, List.mem_append] at hp ⊢
    rcases hp with hp | hp
    · rcases ih1 _ p hp q hq with h | h
      · exact .inl (.inl h)
      · exact .inr h
    · rcases ih2 _ p hp q hq with h | h
      · exact .inl (.inr h)
      · exact .inr h
  | block id c ih =>
    intro k p hp q hq
    simp only [cutsC] at hp ⊢
    rcases ih _ p hp q hq with h | h
    · exact .inl h
    · exact .inr (by simpa [cutsT] using h)
  | loop c ih =>
    intro k p hp q hq
    simp only [cutsC] at hp ⊢
    rcases ih _ p hp q hq with h | h
    · exact .inl h
    · simp only [cutsT, List.mem_append] at h
      exact h
  | scope c ih =>
    intro k p hp q hq
    simp only [cutsC] at hp ⊢
    rcases ih _ p hp q hq with h | h
    · exact .inl h
    · simp only [cutsT, List.mem_append] at h
      exact h
  | _ => intro k p hp; simp [cutsC] at hp

theorem mem_of_mem {x : Nat} : ∀ {l : List Nat}, mem x l = true ↔ x ∈ l := by
  intro l
  induction l with
  | nil => simp [mem]
  | cons y r ih =>
    unfold mem
    split
    · rename_i h; have := Nat.eq_of_beq_eq_true h; subst this; simp
    · rename_i h
      have : ¬ x = y := fun e => by subst e; simp at h
      simp [ih, this]
theorem lk_nodup {β : Type} : ∀ {l : List (Nat × β)}, nodupB (l.map (·.1)) = true → ∀ p ∈ l, lk l p.1 = some p.2 := by
  intro l
  induction l with
  | nil => intro _ p hp; simp at hp
  | cons q r ih =>
    obtain ⟨k, v⟩ := q
    intro hn p hp
    simp only [List.map_cons, nodupB] at hn
    split at hn
    · cases hn
    · rename_i hm
      rcases List.mem_cons.1 hp with rfl | hp
      · rw [lk_cons, if_pos rfl]
      · rw [lk_cons]
        split
        · rename_i hh
          have : k ∈ r.map (·.1) := by rw [hh]; exact List.mem_map_of_mem hp
          rw [← mem_of_mem, hm] at this; cases this
        · exact ih hn p hp

/-- A cut, told by functions on terms. -/
def CutOk (P : Program) (E : Env G) (C : Oracle G) {R : Type} (nt : Nat) (cuts : List Nat) (fin : St G → Option R) (N : Nat) (c : Code) (foot : List Pat) (L : Nat → Nat → St G → Option R) (id : Nat) : Prop :=
  ∃ (V : Type) (slots : List (Nat × Pat)) (dec : List (AV G) → List (Nat × Blk G) → Option V) (enc : V → List (AV G) × List (Nat × Blk G)) (l : Nat → V → Option R),
    (∀ as hp v, dec as hp = some v → enc v = (as, hp)) ∧ (∀ k st, L k id st = cutK P slots foot dec (l k) st) ∧ (∀ v, l 0 v = none) ∧
    ∀ k v r, l (k + 1) v = some r → evCut P E C nt (fun i => mem i cuts) (L k) fin N (todoAt c id) (cutSt slots (enc v)) = some r

theorem cuts_ok (hE : EnvOk P E) (hC : OracleOk P E C) (hmix : P.follows .mixedOrders = true) {R : Type} {nt : Nat} (hnt : fc.nt = nt) {cuts : List Nat} {fin : St G → Option R} {N : Nat} {c : Code} {foot : List Pat} {L : Nat → Nat → St G → Option R}
    (hfoot : ∀ j, fc.an j → ∃ p ∈ foot, footN p = j) (huniq : nodupB ((cutsC c []).map (·.1)) = true) (hL : ∀ id ∈ cuts, CutOk P E C nt cuts fin N c foot L id) :
    ∀ k, CutsOk P E fc fin (fun i => mem i cuts) (L k) (cutsC c []) := by
  intro k
  induction k with
  | zero =>
    intro p hp hc st r h
    obtain ⟨V, slots, dec, enc, l, h1, h2, h3, h4⟩ := hL p.1 (mem_of_mem.1 hc)
    rw [h2] at h
    intro b cs a w hb
    obtain ⟨v, hv, _⟩ := cut_ok hE h1 hfoot h hb
    rw [h3] at hv; cases hv
  | succ k ih =>
    intro p hp hc st r h
    obtain ⟨V, slots, dec, enc, l, h1, h2, h3, h4⟩ := hL p.1 (mem_of_mem.1 hc)
    rw [h2] at h
    intro b cs a w hb
    obtain ⟨v, hv, hb2⟩ := cut_ok hE h1 hfoot h hb
    have he := h4 k v r hv
    have ht : todoAt c p.1 = p.2 := by unfold todoAt; rw [lk_nodup huniq p hp]; rfl
    rw [ht] at he
    refine evCut_ok hE hC hmix hnt (fun q hq => ih q ?_) he b cs a w hb2
    rcases todo_sub c [] p hp q hq with h | h
    · exact h
    · simp [cutsT] at h

/-! ### Results -/
def resF (tmps : Array Value) : ResultVar → Sem Value
  | .tmp t => pure (tmps.getD t undef)
  | .cell x t => do loadVar t (← asAddr (tmps.getD x undef))
theorem res_ok {bl : Nat → Nat} {sv : Nat → Value} (hR : Rel P E fc bl sv st a w) : ∀ (rs : List ResultVar) (vs : List (AV G)) (l : List Nat), (resQ P E rs st).trace st.blk = some (vs, l) →
    ∃ vals, (rs.mapM (resF a.tmps)).run P w = .ok vals w ∧ Reps (st.cx P E fc bl sv w) vs vals := by
  intro rs
  induction rs with
  | nil => intro vs l h; obtain rfl := ret_inv h; exact ⟨[], by simp, Reps.nil _⟩
  | cons x rs ih =>
    intro vs l h
    cases x with
    | tmp t =>
      obtain ⟨vs', l1, l2, h1, h2⟩ := bind_inv h
      obtain rfl := ret_inv h2
      obtain ⟨vals, h3, h4⟩ := ih _ _ h1
      refine ⟨a.tmps.getD t undef :: vals, ?_, Reps.cons (hR.tmps t) h4⟩
      simp only [List.mapM_cons, resF, Sem.run_bind, Sem.run_pure, Result.andThen_ok, h3]
    | cell y t =>
      obtain ⟨e, l1, l2, h1, h2⟩ := bind_inv h
      obtain ⟨vs', l3, l4, h3, h4⟩ := bind_inv h2
      obtain rfl := ret_inv h4
      obtain ⟨vals, h5, h6⟩ := ih _ _ h3
      obtain ⟨v, h7, h8, _, h9⟩ := load_pure hR (hR.tmps y) h1
      refine ⟨v :: vals, ?_, Reps.cons h9 h6⟩
      simp only [Instr.loadAt, Sem.run_bind] at h7
      simp only [List.mapM_cons, resF, Sem.run_bind, Sem.run_pure, h8, h7, Result.andThen_ok, h5]

theorem args_reps {c : Cx G} {as : List (AV G)} {vals : List Value} (h : Reps c as vals) (n d : Nat) (x : AV G) (hx : lk (zipS (List.range as.length) as) d = some x) : Rep c x ((vals.toArray ++ Array.replicate n undef).getD d undef) := by
  have hl : (List.range as.length).map (fun d => vals.getD d undef) = vals := by
    rw [← h.1]
    apply List.ext_getElem?
    intro j
    by_cases hj : j < vals.length
    · simp [hj, List.getD]
    · simp [hj]
  have h1 := lk_zipS (c := c) (fun d => vals.getD d undef) (List.range as.length) as (by rw [hl]; exact h) d x hx
  have hd : d < as.length := by
    have : ∀ (ds : List Nat) (as : List (AV G)), lk (zipS ds as) d = some x → d ∈ ds := by
      intro ds
      induction ds with
      | nil => intro as h; cases as <;> simp [zipS, lk] at h
      | cons k ds ih =>
        intro as h
        cases as with
        | nil => simp [zipS, lk] at h
        | cons b as =>
          simp only [zipS, lk_cons] at h
          split at h
          · rename_i hh; subst hh; exact List.mem_cons_self ..
          · exact List.mem_cons_of_mem _ (ih as h)
    exact List.mem_range.1 (this _ _ hx)
  have e : (vals.toArray ++ Array.replicate n undef).getD d undef = vals.getD d undef := by
    have hd' : d < vals.length := by rw [h.1]; exact hd
    rw [Array.getD_eq_getD_getElem?, Array.getElem?_append_left (by simpa using hd')]
    simp [List.getD]
  rw [e]; exact h1

theorem MRel.anew {bl : Nat → Nat} {sv : Nat → Value} (m : MRel P E fc bl sv st w) (nt : Nat) (an : Nat → Prop) (bl0 : Nat → Nat) (sv0 : Nat → Value) (h : ∀ id, an id → (st.blk id).isSome = true ∧ bl id = bl0 id ∧ sv id = sv0 id) :
    MRel P E { fc with nt, an, bl0, sv0 } bl sv st w := ⟨m.blks, m.disj, m.os, m.tape, m.output, m.grow, m.frame, m.own, h⟩
def resV : List Value → Value
  | [v] => v
  | vs => .tuple vs.toArray
theorem results_run {fn : Func} {tmps : Array Value} {vals : List Value}
    (h : (fn.results.toList.mapM (resF tmps)).run P w = .ok vals w) :
    (results fn tmps).run P w = .ok (resV vals) w := by
  have e : results fn tmps = (do let vs ← fn.results.mapM (resF tmps); pure (if h : vs.size = 1 then vs[0] else .tuple vs)) := by
    unfold results
    rfl
  rw [e, Array.mapM_eq_mapM_toList]
  simp only [map_eq_pure_bind, Sem.run_bind, Sem.run_pure, h, Result.andThen_ok]
  congr 1
  clear h
  match vals with
  | [] => rfl
  | [v] => rfl
  | _ :: _ :: _ => rfl
theorem tell_trace {R V : Type} {ps foot : List Pat} {dec : List (AV G) → List (Nat × Blk G) → Option V} {K : V → Option R} {q : Q G (List (AV G))} {h : Nat → Option (Blk G)} {r : R} (hh : tellK P ps foot dec K q h = some r) : ∃ vs l, q.trace h = some (vs, l) := by
  unfold tellK at hh
  rw [Q.run_eq] at hh
  obtain ⟨⟨as, l⟩, htr, _⟩ := Option.bind_eq_some_iff.1 hh
  obtain ⟨vs, l1, l2, h1, _⟩ := bind_inv htr
  exact ⟨vs, l1, h1⟩
theorem resAV_ok {c : Cx G} {as : List (AV G)} {vals : List Value} (h : Reps c as vals) : Rep c (resAV as) (resV vals) := by
  match as, vals, h with
  | [], [], h => exact .tup [] [] rfl fun j hj => by simp at hj
  | [a], [v], h => exact h.2 0 (Nat.zero_lt_one)
  | a :: b :: r, v :: u :: s, h => exact .tup _ _ h.1 h.2
  | [], _ :: _, h => simp [Reps] at h
  | _ :: _, [], h => simp [Reps] at h
  | [_], _ :: _ :: _, h => simp [Reps] at h
  | _ :: _ :: _, [_], h => simp [Reps] at h

/-- A function whose code comes to what 'f' tells. -/
theorem fn_ok {g : FuncId} {fn : Func} {c : Code} (hfn : P.funcs[g]? = some fn) (hname : (fn.name == "runtime.NumGoroutine") = false) (hbody : fn.body = some c) (hE : EnvOk P E) (hC : OracleOk P E C) (hmix : P.follows .mixedOrders = true)
    {V W : Type} {encV : V → List (AV G) × List (Nat × Blk G)} {f : V → Option W} {encW : W → List (AV G) × List (Nat × Blk G)} {foot : List Pat} {fin : St G → Option W} {cuts : List Nat} {N : Nat} {L : Nat → Nat → St G → Option W}
    (hdecW : ∀ st r, fin st = some r → ∃ psW decW, finK P E fn.results.toList psW foot decW st = some r ∧ ∀ as hp v, decW as hp = some v → encW v = (as, hp)) (huniq : nodupB ((cutsC c []).map (·.1)) = true)
    (hL : ∀ id ∈ cuts, CutOk P E C fn.ntmps cuts fin N c foot L id)
    (hN : ∀ v r, f v = some r → ∃ k, ev P E C fn.ntmps (fun i => mem i cuts) (L k) fin N [.code c] (argSt (encV v)) = some r)
    (hargs : ∀ v, (encV v).1.length ≤ fn.ntmps) (hfoot : ∀ v, ∀ p ∈ foot, (lk (encV v).2 (footN p)).isSome = true)
    (hout : ∀ v r j, (lk (encV v).2 j).isSome = true → (lk (encW r).2 j).isSome = true → ∃ p ∈ foot, footN p = j) : FnOk P E g encV f encW := by
  intro v r hv fc bl sv w vals hw han m hr hlt
  let fc2 : FC := { fc with nt := fn.ntmps, an := fun j => ∃ p ∈ foot, footN p = j, bl0 := bl, sv0 := sv }
  have m2 : MRel P E fc2 bl sv (hst (encV v).2) w := m.anew fn.ntmps _ bl sv (by
    rintro id ⟨p, hp, rfl⟩
    exact ⟨hfoot v p hp, rfl, rfl⟩)
  obtain ⟨k, hk⟩ := hN v r hv
  have hcuts := cuts_ok (fc := fc2) hE hC hmix rfl (fun j h => h) huniq hL k
  have hgood := ev_ok (fc := fc2) hE hC hmix rfl N [.code c] (argSt (encV v)) r (fun p hp => hcuts p (by simpa [cutsT] using hp)) hk
  refine .inl ⟨fn, hfn, hname, by rw [hbody]; rfl, fun cs => ?_⟩
  have hlen : vals.length = (encV v).1.length := hr.1
  let b : Frame := { (default : Frame) with fn := g, kind := .normal }
  have henter : Frame.enter P g vals.toArray .normal = b.at { tmps := vals.toArray ++ Array.replicate (fn.ntmps - vals.toArray.size) undef, defers := [] } [.code c] := by
    simp [Frame.enter, Frame.at, hfn, hbody, b]
  obtain ⟨a', w', st', todo, hfin, ⟨_, bl2, sv2, hR2⟩, hsteps⟩ := hgood b cs { tmps := vals.toArray ++ Array.replicate (fn.ntmps - vals.toArray.size) undef, defers := [] } w (by
    refine ⟨fun id hid => ?_, bl, sv, MRel.congr (s := hst (encV v).2) (t := argSt (encV v)) (fun _ => rfl) m2, rfl, ?_, fun d => ?_⟩
    · show lk (encV v).2 id = none
      cases hh : lk (encV v).2 id with
      | none => rfl
      | some b => have := hlt id (by rw [hh]; rfl); have hid' : stride ≤ id := hid; omega
    · have := hargs v
      simp only [Array.size_append, List.size_toArray, Array.size_replicate]
      show _ = fn.ntmps
      omega
    · unfold St.get
      cases hh : lk (argSt (encV v)).tmps d with
      | none => exact .any _
      | some x => exact args_reps (c := (argSt (encV v)).cx P E fc2 bl sv w) hr _ d x hh)
  obtain ⟨psW, decW, hfin, hdecW⟩ := hdecW _ _ hfin
  obtain ⟨vs, l, htr⟩ := tell_trace hfin
  obtain ⟨vals', hrun, hreps⟩ := res_ok hR2 _ _ _ htr
  obtain ⟨r', bl3, sv3, hr', _, hft, hm⟩ := tell_ok (vals := vals') hE hR2.m (by
    intro vs' l' h'
    rw [htr] at h'
    simp only [Option.some.injEq, Prod.mk.injEq] at h'
    rw [← h'.1]; exact hreps) hdecW (fun j h => h) hfin
  obtain rfl := Option.some.inj hr'
  obtain ⟨m3, r3⟩ := hm (hst (encW r').2) rfl
  refine ⟨.returned _, w', { b.at a' todo with mode := .returning }, ⟨_, rfl, bl3, sv3, m3.anew fc.nt fc.an fc.bl0 fc.sv0 ?_, resAV_ok r3, ?_⟩, ?_, rfl, rfl, ?_, rfl, fn, hfn, results_run hrun⟩
  · exact fun id h => (han id h).elim
  · intro j h1 h2
    obtain ⟨p, hp, rfl⟩ := hout v r' j h1 h2
    have h3 := hft p hp
    have h4 := hR2.m.anch _ ⟨p, hp, rfl⟩
    exact ⟨h3.1.trans h4.2.1, h3.2.trans h4.2.2⟩
  · rw [henter]; exact hsteps
  · exact hR2.defers
end
end Go.Proofs.Ytneiaaalbpjgiaa.Ev
