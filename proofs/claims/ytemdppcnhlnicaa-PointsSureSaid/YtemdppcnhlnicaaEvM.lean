/- Whatever is not in order may change places: a region comes to what its text says. -/
import Derived.Test.YtemdppcnhlnicaaEvL
set_option linter.unusedVariables false
set_option linter.unusedSimpArgs false
namespace Go.Proofs.Ytemdppcnhlnicaa.Ev
open Go Go.RowKit
variable {G : Nat → Type}
section
variable {P : Program} {E : Env G} {C : Oracle G} {nt : Nat} {all : List Oper} {base : Nat}

theorem mem_iff (x : Nat) (l : List Nat) : mem x l = true ↔ x ∈ l := by
  induction l with
  | nil => simp [mem]
  | cons y r ih =>
    unfold mem
    cases h : Nat.beq x y with
    | true => simp [Nat.eq_of_beq_eq_true h]
    | false =>
      have hne : x ≠ y := fun e => by subst e; simp at h
      simp [ih, hne]
theorem meets_false {a b : List Nat} (h : meets a b = false) : ∀ x ∈ a, x ∉ b := by
  induction a with
  | nil => intro x hx; cases hx
  | cons y r ih =>
    unfold meets at h
    cases hm : mem y b with
    | true => simp [hm] at h
    | false =>
      rw [hm] at h
      intro x hx
      rcases List.mem_cons.1 hx with rfl | hx
      · intro hb; rw [(mem_iff x b).2 hb] at hm; cases hm
      · exact ih h x hx

theorem pre_get (s : St G) (g : Option (Nat × Bool)) (hg : ∀ d t, g = some (d, t) → s.get d = .bool t) : SEq (pre s g) s := by
  cases g with
  | none => exact SEq.refl s
  | some p => exact SEq.put_same (hg p.1 p.2 rfl)

/-- What an operation looks at. -/
structure Alike (all : List Oper) (o : Oper) (x : Res G) (s t : St G) : Prop where
  get : ∀ d ∈ usesOf all o, t.get d = s.get d
  rd : ∀ id ∈ x.mk'.1, t.blk id = s.blk id
  wr : ∀ id ∈ x.mk'.2, t.blk id = s.blk id

theorem updOk_congr {s t : St G} {b : Nat} : ∀ (u : List (Nat × Blk G)), (∀ id ∈ u.map (·.1), t.blk id = s.blk id) → updOk t b u = updOk s b u := by
  intro u
  induction u with
  | nil => intro _; rfl
  | cons p u ih =>
    intro h
    obtain ⟨id, k⟩ := p
    have h1 := h id (by simp)
    have h2 := ih fun i hi => h i (by simp at hi ⊢; exact .inr hi)
    simp only [updOk, h1, h2]

theorem doM_local {i : Nat} {o : Oper} {s t : St G} {g : Option (Nat × Bool)} {x : Res G} (hs : doM P E C base i o s g = some x) (hg : ∀ d b, g = some (d, b) → s.get d = .bool b ∧ t.get d = .bool b)
    (h : Alike all o x s t) : doM P E C base i o t g = some x := by
  unfold doM at hs ⊢
  have e1 := pre_get s g fun d b e => (hg d b e).1
  have e2 := pre_get t g fun d b e => (hg d b e).2
  cases htr : (opQ P E C (pre s g).eval (base + stride * i) o.op).trace (pre s g).blk with
  | none => simp [htr] at hs
  | some p =>
    obtain ⟨e, l⟩ := p
    simp only [htr] at hs
    cases hu : updOk (pre s g) (base + stride * i) e.upd with
    | false => simp [hu] at hs
    | true =>
      simp only [hu, Option.some.injEq] at hs
      subst hs
      have hev : opQ P E C (pre t g).eval (base + stride * i) o.op = opQ P E C (pre s g).eval (base + stride * i) o.op := by
        refine opQ_congr fun y hy => ?_
        cases y with
        | tmp d =>
          show (pre t g).get d = (pre s g).get d
          rw [e1.get, e2.get]
          exact h.get d (by unfold usesOf tmpsOf; rw [List.mem_append]; left; rw [List.mem_filterMap]; exact ⟨.tmp d, hy, rfl⟩)
        | _ => rfl
      have hb : ∀ id ∈ l, (pre t g).blk id = (pre s g).blk id := fun id hid => by rw [e1.blk, e2.blk]; exact h.rd id hid
      have ht2 := Q.trace_local _ _ _ _ _ htr hb
      rw [hev, ht2]
      have hu2 : updOk (pre t g) (base + stride * i) e.upd = updOk (pre s g) (base + stride * i) e.upd := updOk_congr _ fun id hid => by rw [e1.blk, e2.blk]; exact h.wr id hid
      simp only [hu2, hu]

theorem doM_gd {i : Nat} {o : Oper} {s : St G} {g : Option (Nat × Bool)} {x : Res G} (hs : doM P E C base i o s g = some x) : x.gd = g := by
  unfold doM at hs
  split at hs
  · split at hs
    · rw [← Option.some.inj hs]
    · cases hs
  · cases hs

theorem stepM_gd {i : Nat} {o : Oper} {s : St G} {x : Res G} (hs : stepM P E C nt all base i o s = some x) : ∀ d b, x.gd = some (d, b) → s.get d = .bool b := by
  unfold stepM at hs
  split at hs
  · cases hs
  · split at hs
    · rw [doM_gd hs]; intro d b h; cases h
    · split at hs
      · rename_i d hd
        split at hs
        · rename_i t ht
          split at hs
          · rw [doM_gd hs]; intro d' b h; simp only [Option.some.injEq, Prod.mk.injEq] at h; rw [← h.1, ← h.2]; exact ht
          · obtain rfl := Option.some.inj hs; intro d' b h; simp only [Option.some.injEq, Prod.mk.injEq] at h; rw [← h.1, ← h.2]; exact ht
        · obtain rfl := Option.some.inj hs; intro d' b h; cases h
        · cases hs
      · cases hs

theorem stepM_local {i : Nat} {o : Oper} {s t : St G} {x : Res G} (hs : stepM P E C nt all base i o s = some x) (h : Alike all o x s t) : stepM P E C nt all base i o t = some x := by
  unfold stepM at hs ⊢
  split at hs
  · cases hs
  · rename_i hd
    split at hs
    · rename_i hg
      exact doM_local hs (fun d b e => by cases e) h
    · rename_i j want hg
      split at hs
      · rename_i d hdst
        have hu : d ∈ usesOf all o := by unfold usesOf; rw [hg, List.mem_append]; right; simp [hdst]
        have hgt := h.get d hu
        split at hs
        · rename_i b hb
          simp only [hgt, hb]
          split at hs
          · rename_i hw
            rw [if_pos hw]
            exact doM_local hs (fun d' b' e => by simp only [Option.some.injEq, Prod.mk.injEq] at e; rw [← e.1, ← e.2]; exact ⟨hb, hgt.trans hb⟩) h
          · rename_i hw
            rw [if_neg hw]
            exact hs
        · rename_i hb
          simp only [hgt, hb]
          exact hs
        · cases hs
      · cases hs

theorem Alike.of_seq {o : Oper} {x : Res G} {s t : St G} (h : SEq s t) : Alike all o x s t := ⟨fun d _ => (h.get d).symm, fun i _ => (h.blk i).symm, fun i _ => (h.blk i).symm⟩

/-- What a step leaves: its slot, its blocks. -/
theorem goOn_get {s : St G} {o : Oper} {x : Res G} (hg : ∀ d b, x.gd = some (d, b) → s.get d = .bool b) (d : Nat) : (goOn s o x).get d = if o.dst = some d then (match x.eff with | some e => e.res | none => .tup []) else s.get d := by
  have e1 := pre_get s x.gd hg
  unfold goOn
  cases hx : x.eff with
  | some e => rw [St.get_app, e1.get]
  | none =>
    cases ho : o.dst with
    | none => simp only [St.put, reduceCtorEq, if_false]; exact e1.get d
    | some y => rw [St.get_put, e1.get]; simp only [Option.some.injEq]
theorem goOn_blk {s : St G} {o : Oper} {x : Res G} (hg : ∀ d b, x.gd = some (d, b) → s.get d = .bool b) (id : Nat) : (goOn s o x).blk id = (match x.eff with | some e => (lk e.upd id).or (s.blk id) | none => s.blk id) := by
  have e1 := pre_get s x.gd hg
  unfold goOn
  cases hx : x.eff with
  | some e => rw [St.blk_app, e1.blk]
  | none => rw [St.put_blk, e1.blk]
theorem lk_none {β : Type} : ∀ (u : List (Nat × β)) (id : Nat), id ∉ u.map (·.1) → lk u id = none := by
  intro u
  induction u with
  | nil => intro id _; rfl
  | cons p u ih =>
    intro id h
    obtain ⟨a, b⟩ := p
    simp only [List.map_cons, List.mem_cons, not_or] at h
    rw [lk_cons, if_neg (fun e => h.1 e.symm), ih id h.2]
theorem goOn_blk_other {s : St G} {o : Oper} {x : Res G} (hg : ∀ d b, x.gd = some (d, b) → s.get d = .bool b) {id : Nat} (h : id ∉ x.mk'.2) : (goOn s o x).blk id = s.blk id := by
  rw [goOn_blk hg]
  cases hx : x.eff with
  | none => rfl
  | some e =>
    have : id ∉ e.upd.map (·.1) := by simpa [Res.mk', Res.wr, hx] using h
    simp [lk_none _ _ this]

theorem apart_inv {a b : Oper} (h : apart all a b = true) : (∀ d, a.dst = some d → d ∉ usesOf all b ∧ b.dst ≠ some d) ∧ (∀ d, b.dst = some d → d ∉ usesOf all a) := by
  unfold apart at h
  simp only [Bool.and_eq_true, Bool.not_eq_true'] at h
  have h1 := meets_false h.1
  have h2 := meets_false h.2
  refine ⟨fun d hd => ?_, fun d hd => ?_⟩
  · have := h1 d (by simp [hd])
    simp only [List.mem_append, not_or] at this
    exact ⟨this.1, fun e => this.2 (by simp [e])⟩
  · have := h2 d (by simp [hd])
    simp only [List.mem_append, not_or] at this
    exact this.1
theorem calm_inv {a b : List Nat × List Nat} (h : calm a b = true) : (∀ id ∈ b.1, id ∉ a.2) ∧ (∀ id ∈ b.2, id ∉ a.2) ∧ (∀ id ∈ a.1, id ∉ b.2) := by
  unfold calm at h
  simp only [Bool.and_eq_true, Bool.not_eq_true'] at h
  exact ⟨fun id h1 h2 => meets_false h.1.1 id h2 h1, fun id h1 h2 => meets_false h.1.2 id h2 h1, fun id h1 h2 => meets_false h.2 id h2 h1⟩

theorem stepM_swap {i j : Nat} {a b : Oper} {s : St G} {x y : Res G} (hx : stepM P E C nt all base i a s = some x) (hy : stepM P E C nt all base j b (goOn s a x) = some y)
    (hap : apart all a b = true) (hca : calm x.mk' y.mk' = true) :
    stepM P E C nt all base j b s = some y ∧ stepM P E C nt all base i a (goOn s b y) = some x ∧ SEq (goOn (goOn s a x) b y) (goOn (goOn s b y) a x) := by
  obtain ⟨p1, p2⟩ := apart_inv hap
  obtain ⟨c1, c2, c3⟩ := calm_inv hca
  have gx := stepM_gd hx
  have hb : Alike all b y (goOn s a x) s := by
    refine ⟨fun d hd => ?_, fun id hid => (goOn_blk_other gx (c1 id hid)).symm, fun id hid => (goOn_blk_other gx (c2 id hid)).symm⟩
    rw [goOn_get gx, if_neg]
    exact fun e => (p1 d e).1 hd
  have hy' := stepM_local hy hb
  have gy := stepM_gd hy'
  have ha : Alike all a x s (goOn s b y) := by
    refine ⟨fun d hd => ?_, fun id hid => goOn_blk_other gy (c3 id hid), fun id hid => goOn_blk_other gy fun h => c2 id h hid⟩
    rw [goOn_get gy, if_neg]
    exact fun e => p2 d e hd
  have hx' := stepM_local hx ha
  have gy2 := stepM_gd hy
  have gx2 := stepM_gd hx'
  refine ⟨hy', hx', fun d => ?_, fun id => ?_⟩
  · rw [goOn_get gy2, goOn_get gx, goOn_get gx2, goOn_get gy]
    by_cases h1 : a.dst = some d
    · have h2 := (p1 d h1).2
      rw [if_neg h2, if_pos h1, if_pos h1]
    · rw [if_neg h1, if_neg h1]
  · rw [goOn_blk gy2, goOn_blk gx, goOn_blk gx2, goOn_blk gy]
    cases hex : x.eff with
    | none => rfl
    | some ex =>
      cases hey : y.eff with
      | none => rfl
      | some ey =>
        simp only []
        by_cases h1 : id ∈ ey.upd.map (·.1)
        · have h2 : id ∉ ex.upd.map (·.1) := by
            have := c2 id (by simpa [Res.mk', Res.wr, hey] using h1)
            simpa [Res.mk', Res.wr, hex] using this
          rw [lk_none _ _ h2]
          simp
        · rw [lk_none _ _ h1]
          simp

theorem SEq.goOn {s t : St G} {o : Oper} {x : Res G} (h : SEq s t) (hg : ∀ d b, x.gd = some (d, b) → s.get d = .bool b) : SEq (goOn s o x) (goOn t o x) := by
  have hg' : ∀ d b, x.gd = some (d, b) → t.get d = .bool b := fun d b e => (h.get d).symm.trans (hg d b e)
  refine ⟨fun d => by rw [goOn_get hg, goOn_get hg', h.get], fun id => by rw [goOn_blk hg, goOn_blk hg', h.blk]⟩

/-! ### Operations in a row, each with its result -/
def RunX (P : Program) (E : Env G) (C : Oracle G) (nt : Nat) (all : List Oper) (base : Nat) (X : Nat → Res G) : List (Nat × Oper) → St G → St G → Prop
  | [], s, t => SEq s t
  | (i, o) :: L, s, t => stepM P E C nt all base i o s = some (X i) ∧ RunX P E C nt all base X L (goOn s o (X i)) t

theorem RunX.congr {X : Nat → Res G} : ∀ {L : List (Nat × Oper)} {s s' t : St G}, RunX P E C nt all base X L s t → SEq s s' → RunX P E C nt all base X L s' t := by
  intro L
  induction L with
  | nil => intro s s' t h e; exact e.symm.trans h
  | cons p L ih =>
    intro s s' t h e
    obtain ⟨i, o⟩ := p
    have h1 := stepM_local h.1 (Alike.of_seq e)
    exact ⟨h1, ih h.2 (SEq.goOn e (stepM_gd h.1))⟩

theorem RunX.front {X : Nat → Res G} {j : Nat} {b : Oper} {post : List (Nat × Oper)} : ∀ {pr : List (Nat × Oper)} {s t : St G}, RunX P E C nt all base X (pr ++ (j, b) :: post) s t →
    (∀ p ∈ pr, apart all p.2 b = true ∧ calm (X p.1).mk' (X j).mk' = true) → stepM P E C nt all base j b s = some (X j) ∧ RunX P E C nt all base X (pr ++ post) (goOn s b (X j)) t := by
  intro pr
  induction pr with
  | nil => intro s t h _; exact h
  | cons p pr ih =>
    intro s t h hp
    obtain ⟨i, a⟩ := p
    obtain ⟨h1, h2⟩ := h
    obtain ⟨h3, h4⟩ := ih h2 fun q hq => hp q (by simp [hq])
    obtain ⟨ha, hc⟩ := hp (i, a) (by simp)
    obtain ⟨e1, e2, e3⟩ := stepM_swap h1 h3 ha hc
    exact ⟨e1, e2, h4.congr e3⟩

theorem RunX.ext {X Y : Nat → Res G} : ∀ {L : List (Nat × Oper)} {s t : St G}, RunX P E C nt all base X L s t → (∀ p ∈ L, X p.1 = Y p.1) → RunX P E C nt all base Y L s t := by
  intro L
  induction L with
  | nil => intro s t h _; exact h
  | cons p L ih =>
    intro s t h e
    obtain ⟨i, o⟩ := p
    have h0 := e (i, o) (by simp)
    have h1 := ih h.2 fun q hq => e q (by simp [hq])
    refine ⟨h.1.trans (by rw [show X i = Y i from h0]), ?_⟩
    rw [← show X i = Y i from h0]; exact h1

theorem mkOf_none : ∀ (m : List Mk) (k : Nat), (∀ q ∈ m, q.i ≠ k) → mkOf m k = ([], []) := by
  intro m
  induction m with
  | nil => intro k _; rfl
  | cons q m ih =>
    intro k h
    unfold mkOf
    have h1 : Nat.beq q.i k = false := by
      cases hb : Nat.beq q.i k with
      | false => rfl
      | true => exact absurd (Nat.eq_of_beq_eq_true hb) (h q (by simp))
    rw [h1]
    exact ih k fun r hr => h r (by simp [hr])
theorem mkOf_append : ∀ (m m' : List Mk) (k : Nat), (∀ q ∈ m', q.i ≠ k) → mkOf (m ++ m') k = mkOf m k := by
  intro m
  induction m with
  | nil => intro m' k h; exact mkOf_none m' k h
  | cons q m ih =>
    intro m' k h
    simp only [List.cons_append, mkOf]
    rw [ih m' k h]
theorem mkOf_skip : ∀ (m m' : List Mk) (k : Nat), (∀ q ∈ m, q.i ≠ k) → mkOf (m ++ m') k = mkOf m' k := by
  intro m
  induction m with
  | nil => intro m' k h; rfl
  | cons q m ih =>
    intro m' k h
    simp only [List.cons_append, mkOf]
    have h1 : Nat.beq q.i k = false := by
      cases hb : Nat.beq q.i k with
      | false => rfl
      | true => exact absurd (Nat.eq_of_beq_eq_true hb) (h q (by simp))
    rw [h1]
    exact ih m' k fun r hr => h r (by simp [hr])
theorem mkOf_marksOf (i : Nat) (x : Res G) : mkOf (marksOf i x) i = x.mk' := by
  unfold marksOf Res.mk' Res.wr
  cases x.eff with
  | none => rfl
  | some e => simp [mkOf]

/-- Operations with their numbers. -/
def numb : List Oper → Nat → List (Nat × Oper)
  | [], _ => []
  | o :: r, i => (i, o) :: numb r (i + 1)
theorem numb_mem : ∀ (ops : List Oper) (i : Nat) (p : Nat × Oper), p ∈ numb ops i → i ≤ p.1 ∧ p.1 < i + ops.length ∧ ops[p.1 - i]? = some p.2 := by
  intro ops
  induction ops with
  | nil => intro i p h; cases h
  | cons o ops ih =>
    intro i p h
    rcases List.mem_cons.1 h with rfl | h
    · exact ⟨Nat.le_refl _, by simp, by simp⟩
    · obtain ⟨h1, h2, h3⟩ := ih (i + 1) p h
      refine ⟨by omega, by simp; omega, ?_⟩
      obtain ⟨q, hq⟩ : ∃ q, p.1 - i = q + 1 := ⟨p.1 - i - 1, by omega⟩
      rw [hq, List.getElem?_cons_succ, ← h3]
      congr 1; omega

theorem runX_of_runM : ∀ (ops : List Oper) (i : Nat) (s : St G) (log : List Mk) (t : St G) (m : List Mk), runM P E C nt all base ops i s log = some (t, m) →
    ∃ X : Nat → Res G, RunX P E C nt all base X (numb ops i) s t ∧ (∃ m', m = m' ++ log ∧ (∀ q ∈ m', i ≤ q.i) ∧ ∀ k, i ≤ k → k < i + ops.length → mkOf m' k = (X k).mk') := by
  intro ops
  induction ops with
  | nil =>
    intro i s log t m h
    simp only [runM, Option.some.injEq, Prod.mk.injEq] at h
    exact ⟨fun _ => ⟨none, [], none⟩, by simp only [numb, RunX]; exact h.1 ▸ SEq.refl s, [], by simp [h.2], by simp, fun k h1 h2 => by simp at h2; omega⟩
  | cons o ops ih =>
    intro i s log t m h
    simp only [runM] at h
    split at h
    · rename_i x hx
      obtain ⟨X', hr, m', hm, hge, hk⟩ := ih (i + 1) _ _ _ _ h
      refine ⟨at_ X' i x, ⟨by rw [at_same]; exact hx, ?_⟩, m' ++ marksOf i x, by rw [hm, List.append_assoc], ?_, ?_⟩
      · rw [at_same]
        exact hr.ext fun p hp => by
          have := (numb_mem ops (i + 1) p hp).1
          rw [at_other _ _ (by omega)]
      · intro q hq
        rcases List.mem_append.1 hq with hq | hq
        · have := hge q hq; omega
        · unfold marksOf at hq
          split at hq
          · simp only [List.mem_singleton] at hq; subst hq; exact Nat.le_refl _
          · cases hq
      · intro k h1 h2
        by_cases e : k = i
        · subst e
          rw [at_same, mkOf_skip m' _ _ (fun q hq => by have := hge q hq; omega), mkOf_marksOf]
        · rw [at_other _ _ e, mkOf_append m' _ _ (fun q hq => by
            unfold marksOf at hq
            split at hq
            · simp only [List.mem_singleton] at hq; subst hq; exact fun h => e h.symm
            · cases hq)]
          exact hk k (by omega) (by simp at h2; omega)
    · cases h

/-! ### What goes ahead -/
theorem aheadOne_bits (acc : List Nat) : ∀ (es : List Edge) (s0 j : Nat), (es.foldl (fun s e => match Region.binds .any e with | true => s ||| (2 ^ e.on) ||| acc.getD e.on 0 | false => s) s0).testBit j = true →
    s0.testBit j = true ∨ ∃ e ∈ es, Region.binds .any e = true ∧ (e.on = j ∨ (acc.getD e.on 0).testBit j = true) := by
  intro es
  induction es with
  | nil => intro s0 j h; exact .inl h
  | cons e es ih =>
    intro s0 j h
    simp only [List.foldl_cons] at h
    rcases ih _ j h with h | ⟨e', he', h'⟩
    · cases hb : Region.binds .any e with
      | false => simp only [hb] at h; exact .inl h
      | true =>
        simp only [hb, Nat.testBit_or, Bool.or_eq_true] at h
        rcases h with (h | h) | h
        · exact .inl h
        · refine .inr ⟨e, by simp, hb, .inl ?_⟩
          rw [Nat.testBit_two_pow] at h
          exact of_decide_eq_true h
        · exact .inr ⟨e, by simp, hb, .inr h⟩
    · exact .inr ⟨e', by simp [he'], h'⟩
theorem force_eq {R : Type} (n : Nat) (f : Nat → R) : force n f = f n := by cases n <;> rfl
theorem aheadL_get : ∀ (ops : List Oper) (acc : List Nat), (∀ k, k < acc.length → (aheadL ops acc)[k]? = acc[k]?) ∧ (aheadL ops acc).length = acc.length + ops.length ∧
    ∀ k v o, ops[k]? = some o → (aheadL ops acc)[acc.length + k]? = some v → ∀ j, v.testBit j = true → ∃ e ∈ o.after.toList, Region.binds .any e = true ∧ (e.on = j ∨ (e.on < acc.length + k ∧ ((aheadL ops acc).getD e.on 0).testBit j = true)) := by
  intro ops
  induction ops with
  | nil => intro acc; exact ⟨fun k _ => rfl, by simp [aheadL], fun k v o h => by simp at h⟩
  | cons o ops ih =>
    intro acc
    simp only [aheadL, force_eq]
    obtain ⟨h1, h2, h3⟩ := ih (acc ++ [aheadOne acc o])
    refine ⟨fun k hk => ?_, by rw [h2]; simp; omega, fun k v o' ho hv j hj => ?_⟩
    · rw [h1 k (by simp; omega), List.getElem?_append_left hk]
    · cases k with
      | zero =>
        simp only [List.getElem?_cons_zero, Option.some.injEq] at ho
        subst ho
        rw [Nat.add_zero, h1 _ (by simp)] at hv
        simp only [List.getElem?_append_right (Nat.le_refl _), Nat.sub_self, List.getElem?_cons_zero, Option.some.injEq] at hv
        subst hv
        rcases aheadOne_bits acc _ 0 j hj with h | ⟨e, he, hb, h⟩
        · simp at h
        · refine ⟨e, he, hb, ?_⟩
          rcases h with h | h
          · exact .inl h
          · by_cases hlt : e.on < acc.length
            · refine .inr ⟨by omega, ?_⟩
              have : (aheadL ops (acc ++ [aheadOne acc o])).getD e.on 0 = acc.getD e.on 0 := by
                rw [List.getD_eq_getElem?_getD, h1 _ (by simp; omega), List.getElem?_append_left hlt, List.getD_eq_getElem?_getD]
              rw [this]; exact h
            · rw [List.getD_eq_getElem?_getD, List.getElem?_eq_none (by omega)] at h
              simp at h
      | succ k =>
        simp only [List.getElem?_cons_succ] at ho
        obtain ⟨e, he, hb, h⟩ := h3 k v o' ho (by rw [← hv]; congr 1; simp; omega) j hj
        refine ⟨e, he, hb, ?_⟩
        rcases h with h | ⟨h, h'⟩
        · exact .inl h
        · exact .inr ⟨by simp at h; omega, h'⟩
end
end Go.Proofs.Ytemdppcnhlnicaa.Ev
