/- States told anew from their roots. -/
import Derived.Test.YtemdppcnhlnicaaEvO
set_option linter.unusedVariables false
set_option linter.unusedSimpArgs false
namespace Go.Proofs.Ytemdppcnhlnicaa.Ev
open Go Go.RowKit
variable {G : Nat → Type}

def blT (ids : List (Nat × Option Nat)) (bl : Nat → Nat) (j : Nat) : Nat := match lk ids j with | some (some i) => bl i | _ => 0
def svT (ids : List (Nat × Option Nat)) (sv : Nat → Value) (j : Nat) : Value := match lk ids j with | some (some i) => sv i | _ => .slice none 0 0
def cT (c : Cx G) (ids : List (Nat × Option Nat)) (O : Nat → Prop) : Cx G := ⟨c.P, c.E, c.w, blT ids c.bl, svT ids c.sv, fun j => (lk ids j).isSome = true, O⟩
def Ext (s T : CS G) : Prop := (∀ j x, lk s.ids j = some x → lk T.ids j = some x) ∧ ∀ i ∈ s.lent, i ∈ T.lent
theorem Ext.refl (s : CS G) : Ext s s := ⟨fun _ _ h => h, fun _ h => h⟩
theorem Ext.trans {s t u : CS G} (h : Ext s t) (k : Ext t u) : Ext s u := ⟨fun j x e => k.1 j x (h.1 j x e), fun i hi => k.2 i (h.2 i hi)⟩
/-- What a block that is lent has owned. -/
def lentOf (c : Cx G) (h : Nat → Option (Blk G)) (i g : Nat) : Prop := match h i with
  | some (.row _ _) => (c.sv i).ownBlock = some g
  | some (.mrow _ xs hole) => c.bl i = g ∨ famO (c.sv i) xs.length (holeAt hole) g
  | _ => False
def GoodO (c : Cx G) (h : Nat → Option (Blk G)) (T : CS G) (O : Nat → Prop) : Prop := (∀ g, O g → c.ow g) ∧ ∀ i ∈ T.lent, ∀ g, lentOf c h i g → ¬ O g
def sameKind : Blk G → Blk G → Prop
  | .fix _ _, .fix _ _ => True
  | .row _ _, .row _ _ => True
  | .lp _ _ _, .lp _ _ _ => True
  | .mset _, .mset _ => True
  | .mrow _ xs a, .mrow _ ys b => xs.length = ys.length ∧ a = none ∧ b = none
  | _, _ => False
structure Inv (c : Cx G) (h : Nat → Option (Blk G)) (s : CS G) : Prop where
  inj : ∀ j j' i, lk s.ids j = some (some i) → lk s.ids j' = some (some i) → j = j'
  hp : ∀ j b, lk s.hp j = some b → ∀ (T : CS G) (O : Nat → Prop), Ext s T → GoodO c h T O → BlkOk (cT c T.ids O) j b
  kind : ∀ j b, lk s.hp j = some b → (∃ i b', lk s.ids j = some (some i) ∧ h i = some b' ∧ sameKind b b') ∨ (lk s.ids j = some none ∧ ∃ e, b = .row e [])
  lent : ∀ i ∈ s.lent, ∃ b, h i = some b

theorem taken_false {id : Nat} : ∀ {ids : List (Nat × Option Nat)}, taken id ids = false → ∀ j, lk ids j ≠ some (some id) := by
  intro ids
  induction ids with
  | nil => intro _ j h; simp [lk] at h
  | cons p r ih =>
    obtain ⟨a, x⟩ := p
    intro ht j h
    rw [lk_cons] at h
    cases x with
    | none =>
      simp only [taken] at ht
      split at h
      · cases h
      · exact ih ht j h
    | some i =>
      simp only [taken] at ht
      split at ht
      · cases ht
      · rename_i hne
        split at h
        · simp only [Option.some.injEq] at h
          subst h
          simp at hne
        · exact ih ht j h

theorem Inv.add {c : Cx G} {h : Nat → Option (Blk G)} {s : CS G} (H : Inv c h s) {j id : Nat} (hj : lk s.ids j = none) (ht : taken id s.ids = false) :
    Ext s { s with ids := (j, some id) :: s.ids } ∧ Inv c h { s with ids := (j, some id) :: s.ids } := by
  have e : Ext s { s with ids := (j, some id) :: s.ids } := ⟨fun j' x hx => by
    show lk ((j, some id) :: s.ids) j' = some x
    rw [lk_cons]
    split
    · rename_i hh; subst hh; rw [hj] at hx; cases hx
    · exact hx, fun _ h => h⟩
  refine ⟨e, ⟨?_, fun j' b hb T O hT hO => H.hp j' b hb T O (e.trans hT) hO, ?_, H.lent⟩⟩
  · intro a b i ha hb
    simp only [lk_cons] at ha hb
    split at ha <;> split at hb
    · rename_i h1 h2; exact h1.symm.trans h2
    · simp only [Option.some.injEq] at ha; subst ha; exact absurd hb (taken_false ht b)
    · simp only [Option.some.injEq] at hb; subst hb; exact absurd ha (taken_false ht a)
    · exact H.inj a b i ha hb
  · intro j' b hb
    rcases H.kind j' b hb with ⟨i, b', h1, h2⟩ | ⟨h1, h2⟩
    · exact .inl ⟨i, b', e.1 _ _ h1, h2⟩
    · exact .inr ⟨e.1 _ _ h1, h2⟩

theorem bind_inv {α β : Type} {q : Q G α} {f : α → Q G β} {h : Nat → Option (Blk G)} {r : β} {l : List Nat} (e : (q.bind f).trace h = some (r, l)) :
    ∃ (a : α) (l1 l2 : List Nat), q.trace h = some (a, l1) ∧ (f a).trace h = some (r, l2) := by
  rw [Q.trace_bind] at e
  obtain ⟨⟨a, l1⟩, h1, h2⟩ := Option.bind_eq_some_iff.1 e
  obtain ⟨⟨r', l2⟩, h3, h4⟩ := Option.map_eq_some_iff.1 h2
  simp only [Prod.mk.injEq] at h4
  obtain ⟨rfl, _⟩ := h4
  exact ⟨a, l1, l2, h1, h3⟩
theorem ret_inv {α : Type} {a r : α} {h : Nat → Option (Blk G)} {l : List Nat} (e : (Q.ret a : Q G α).trace h = some (r, l)) : a = r := by
  simp only [Q.trace, Option.some.injEq, Prod.mk.injEq] at e; exact e.1
theorem ret_inv2 {α β : Type} {a : α} {b : β} {r : α} {t : β} {h : Nat → Option (Blk G)} {l : List Nat} (e : (Q.ret (a, b) : Q G (α × β)).trace h = some ((r, t), l)) : r = a ∧ t = b := by
  have := ret_inv e; simp only [Prod.mk.injEq] at this; exact ⟨this.1.symm, this.2.symm⟩

/-- What a value told anew comes to. -/
def Told (c : Cx G) (h : Nat → Option (Blk G)) (s s' : CS G) (R : Cx G → Prop) : Prop :=
  Ext s s' ∧ Inv c h s' ∧ ∀ (T : CS G) (O : Nat → Prop), Ext s' T → GoodO c h T O → R (cT c T.ids O)

section
variable {c : Cx G} {h : Nat → Option (Blk G)}

theorem canonAll_ok {f : Pat → AV G → CS G → Q G (AV G × CS G)}
    (hf : ∀ p a s a' s' l v, (f p a s).trace h = some ((a', s'), l) → Rep c a v → Inv c h s → Told c h s s' fun t => Rep t a' v) :
    ∀ (ps : List Pat) (as : List (AV G)) (s : CS G) (as' : List (AV G)) (s' : CS G) (l : List Nat) (vs : List Value),
      (canonAll f ps as s).trace h = some ((as', s'), l) → Reps c as vs → Inv c h s → Told c h s s' fun t => Reps t as' vs := by
  intro ps
  induction ps with
  | nil =>
    intro as s as' s' l vs hq hr H
    cases as with
    | nil =>
      simp only [canonAll, Q.trace, Option.some.injEq, Prod.mk.injEq] at hq
      obtain ⟨⟨rfl, rfl⟩, _⟩ := hq
      obtain rfl := hr.nil_inv
      exact ⟨Ext.refl _, H, fun _ _ _ _ => Reps.nil _⟩
    | cons a as => cases hq
  | cons p ps ih =>
    intro as s as' s' l vs hq hr H
    cases as with
    | nil => cases hq
    | cons a as =>
      simp only [canonAll] at hq
      obtain ⟨⟨a1, s1⟩, l1, l2, hq1, hq⟩ := bind_inv hq
      obtain ⟨⟨a2, s2⟩, l3, l4, hq2, hq3⟩ := bind_inv hq
      obtain ⟨rfl, rfl⟩ := ret_inv2 hq3
      obtain ⟨v, vs', rfl, h1, h2⟩ := hr.cons_inv
      obtain ⟨e1, H1, R1⟩ := hf _ _ _ _ _ _ _ hq1 h1 H
      obtain ⟨e2, H2, R2⟩ := ih _ _ _ _ _ _ hq2 h2 H1
      exact ⟨e1.trans e2, H2, fun T O hT hO => Reps.cons (R1 T O (e2.trans hT) hO) (R2 T O hT hO)⟩

theorem told_same {s : CS G} (H : Inv c h s) {R : Cx G → Prop} (hR : ∀ (T : CS G) (O : Nat → Prop), Ext s T → GoodO c h T O → R (cT c T.ids O)) : Told c h s s R := ⟨Ext.refl s, H, hR⟩

theorem mapv_tells {c : Cx G} {j id : Nat} {v : Value} {T : CS G} (hr : Rep c (.mapv id) v) (hT : lk T.ids j = some (some id)) (O : Nat → Prop) : Rep (cT c T.ids O) (.mapv j) v := by
  obtain ⟨_, rfl⟩ := hr.mapv_inv
  have e1 : c.bl id = (cT c T.ids O).bl j := by
    show _ = blT T.ids c.bl j
    unfold blT
    rw [hT]
  rw [e1]
  refine .mapv j ?_
  show (lk T.ids j).isSome = true
  rw [hT]; rfl
theorem splitRo_eq {cs : List (AV G)} : ∀ {q : RoS G}, splitRo cs = some q → cs = q.f ++ [.ros q.e q.ts] := by
  induction cs with
  | nil => intro q h; cases h
  | cons a r ih =>
    intro q h
    unfold splitRo at h
    split at h
    · obtain rfl := Option.some.inj h; rfl
    · obtain ⟨q', h1, rfl⟩ := Option.map_eq_some_iff.1 h
      have := ih h1
      simp only [List.cons_append]
      rw [← this]
theorem splitRo_shut {cs : List (AV G)} {q : RoS G} (h : splitRo cs = some q) (hs : cs.all (AV.shut 4) = true) : ∀ a ∈ q.f, a.shut 4 = true := by
  intro a ha
  rw [splitRo_eq h] at hs
  exact List.all_eq_true.1 hs a (List.mem_append_left _ ha)
/-- A map of rows that is lent. -/
theorem lend_map {c c' : Cx G} (hE : EnvOk c.P c.E) (hP : c'.P = c.P) (hEE : c'.E = c.E) (hw : c'.w = c.w) (how : ∀ g, c'.ow g → c.ow g) {id e : Nat} {xs : List (Int × G e)} (hb : BlkOk c id (.mrow e xs none))
    (hno : ∀ g, (c.bl id = g ∨ famO (c.sv id) xs.length (holeAt none) g) → ¬ c'.ow g) : Rep c' (.romap e xs) (.map (some (c.bl id))) := by
  have hb0 := hb
  obtain ⟨es, clock, h1, h2, h3, h4, h5, h6, h7⟩ := hb
  have hlt : c.bl id < c.w.heap.size := (Array.getElem?_eq_some_iff.1 h1).1
  refine .romap e xs (c.bl id) clock es (by rw [hw]; exact hlt) (hno _ (.inl rfl)) (by rw [hw]; exact h1) h2 (fun j hj => ?_) (fun j => (es.toList.getD j default).val) (fun j hj => ?_) (fun j hj => ?_)
  · obtain ⟨en, g1, g2, _⟩ := h3 j xs[j] (List.getElem?_eq_getElem hj)
    rw [g1]; simp [g2]
  · obtain ⟨en, g1, g2, _⟩ := h3 j xs[j] (List.getElem?_eq_getElem hj)
    rw [g1]; simp [g1]
  · obtain ⟨en, g1, g2, g3⟩ := h3 j xs[j] (List.getElem?_eq_getElem hj)
    have hen : (es.toList.getD j default).val = en.val := by rw [getD_of g1]
    obtain ⟨g, sl, q, vs, sz, us, r1, r2, r3, r4, r5, r6, r7, r8, r9, r10⟩ := g3 (by simp [holeAt])
    show Rep c' (.rop (c'.E.enc e xs[j].2)) (es.toList.getD j default).val
    rw [hen, r3, hEE, splitRo_eq r4]
    have fam1 : famO (c.sv id) xs.length (holeAt none) g := ⟨2 * j, by omega, by simp [holeAt], by simp [famN, r1, blkOf]⟩
    have hg : g < c.w.heap.size := (Array.getElem?_eq_some_iff.1 r5).1
    have hsh := splitRo_shut r4 (hE.shut e xs[j].2)
    have hrow : Rep c' (.ros q.e q.ts) sl := by
      have hb1 : BlkOk { c with sv := at_ c.sv 0 sl } 0 (.row q.e q.ts) := by
        refine ⟨sz, us, r7, ?_, ?_, r10⟩
        · show c.w.ownsRow 0 q.e sz (at_ c.sv 0 sl 0) _ _
          rw [at_same]; exact r8
        · refine ⟨r9.1, fun jk hjk => (r9.2 jk hjk).less (c' := { c with sv := at_ c.sv 0 sl }) hE rfl rfl rfl (fun _ h => h) 4 ?_⟩
          obtain ⟨x, _, hx⟩ := List.mem_flatMap.1 (List.getElem_mem hjk)
          exact List.all_eq_true.1 (hE.shut q.e x) _ hx
      have := lend_ok (c := { c with sv := at_ c.sv 0 sl }) (c' := c') hE hP hEE hw how hb1 (by
        intro gg hgg
        have hgg' : (at_ c.sv 0 sl 0).ownBlock = some gg := hgg
        rw [at_same] at hgg'
        refine hno gg (.inr ⟨2 * j + 1, by omega, by simp [holeAt], ?_⟩)
        simp only [famN, r2, Option.bind_some]
        rcases r8.2 with ⟨e1, _⟩ | ⟨g2, cap, cur, e1, _⟩
        · rw [e1] at hgg'; simp [Value.ownBlock] at hgg'
        · rw [e1] at hgg' ⊢; exact hgg')
      have e2 : ({ c with sv := at_ c.sv 0 sl } : Cx G).sv 0 = sl := at_same c.sv 0 sl
      rw [e2] at this
      exact this
    have hall : Reps c' (q.f ++ [.ros q.e q.ts]) (vs ++ [sl]) := by
      refine Reps.append ⟨r6.1, fun jk hjk => (r6.2 jk hjk).less hE hP hEE hw how 4 (hsh _ (List.getElem_mem hjk))⟩ (Reps.cons hrow (Reps.nil _))
    refine .rop g 0 _ (fun jk => (vs ++ [sl]).getD jk undef) (by rw [hw]; exact hg) (hno g (.inr fam1)) (fun jk hjk => ?_) hall.2
    rw [hw, Nat.zero_add, cell_of_row c.w g jk _ e _ r5]
    have hjk' : jk < (vs ++ [sl]).length := by rw [hall.1]; exact hjk
    rw [List.getElem?_toArray, List.getElem?_eq_getElem hjk', List.getD_eq_getElem?_getD, List.getElem?_eq_getElem hjk']
    rfl
theorem canonP_ok (hE : EnvOk c.P c.E) (hb : ∀ id b, h id = some b → BlkOk c id b) : ∀ (d : Nat) (p : Pat) (a : AV G) (s : CS G) (a' : AV G) (s' : CS G) (l : List Nat) (v : Value),
    (canonP c.P d p a s).trace h = some ((a', s'), l) → Rep c a v → Inv c h s → Told c h s s' fun t => Rep t a' v := by
  intro d
  induction d with
  | zero => intro p a s a' s' l v hq; cases hq
  | succ d ih =>
    intro p a s a' s' l v hq hr H
    have shutFlat : ∀ (e : Nat) (xs : List (G e)) (c' : Cx G), c'.P = c.P → c'.E = c.E → c'.w = c.w → (∀ g, c'.ow g → c.ow g) → ∀ vs, Reps c (xs.flatMap (c.E.enc e)) vs → Reps c' (xs.flatMap (c.E.enc e)) vs := by
      intro e xs c' h1 h2 h3 h4 vs hv
      refine ⟨hv.1, fun j hj => (hv.2 j hj).less hE h1 h2 h3 h4 4 ?_⟩
      obtain ⟨x, _, hx⟩ := List.mem_flatMap.1 (List.getElem_mem hj)
      exact List.all_eq_true.1 (hE.shut e x) _ hx
    have less : ∀ {a : AV G} {v : Value} (n : Nat), Rep c a v → a.shut n = true → ∀ (T : CS G) (O : Nat → Prop), GoodO c h T O → Rep (cT c T.ids O) a v := fun n hr hs T O hO => Rep.less (c := c) (c' := cT c T.ids O) hE rfl rfl rfl hO.1 hr n hs
    unfold canonP at hq
    split at hq
    · -- any
      obtain ⟨rfl, rfl⟩ := ret_inv2 hq
      exact told_same H fun _ _ _ _ => .any _
    · -- keep
      split at hq
      · rename_i hs
        obtain ⟨rfl, rfl⟩ := ret_inv2 hq
        exact told_same H fun T O hT hO => less 1 hr (by cases a' <;> simp_all [simple, AV.shut]) T O hO
      · cases hq
    · -- ros, nil
      rename_i e
      obtain ⟨rfl, rfl⟩ := ret_inv2 hq
      obtain rfl := hr.nilsl_inv
      exact told_same H fun _ _ _ _ => .ros0 e none 0 (fun _ => rfl)
    · -- ros, ros
      split at hq
      · obtain ⟨rfl, rfl⟩ := ret_inv2 hq
        exact told_same H fun T O hT hO => less 1 hr rfl T O hO
      · cases hq
    · -- ros, rosn
      split at hq
      · obtain ⟨rfl, rfl⟩ := ret_inv2 hq
        exact told_same H fun T O hT hO => less 1 hr.rosn_ros rfl T O hO
      · cases hq
    · -- rosn, rosn
      split at hq
      · obtain ⟨rfl, rfl⟩ := ret_inv2 hq
        exact told_same H fun T O hT hO => less 1 hr rfl T O hO
      · cases hq
    · -- ros, osl
      rename_i e id
      have hq1 := ask_inv hq
      clear hq
      obtain ⟨l1, hq, -⟩ := hq1
      split at hq
      · rename_i e' xs hid
        split at hq
        · obtain ⟨rfl, rfl⟩ := ret_inv2 hq
          refine ⟨⟨fun _ _ h => h, fun _ h => List.mem_cons_of_mem _ h⟩, ⟨H.inj, fun j b hj T O hT hO => H.hp j b hj T O ⟨hT.1, fun i hi => hT.2 i (List.mem_cons_of_mem _ hi)⟩ hO, H.kind, fun i hi => ?_⟩, fun T O hT hO => ?_⟩
          · rcases List.mem_cons.1 hi with rfl | hi
            · exact ⟨_, hid⟩
            · exact H.lent i hi
          · cases hr with
            | osl id A n cap hlv hsv =>
              have := lend_ok (c := c) (c' := cT c T.ids O) hE rfl rfl rfl hO.1 (hb id _ hid) (fun g hg => hO.2 id (hT.2 id (List.mem_cons_self ..)) g (by unfold lentOf; rw [hid]; exact hg))
              rw [hsv] at this
              exact this
        · cases hq
      · cases hq
    · -- ros, sub
      rename_i e id sz lo n
      have hq1 := ask_inv hq
      clear hq
      obtain ⟨l1, hq, -⟩ := hq1
      split at hq
      · rename_i e' xs hid
        split at hq
        · rename_i hbe hsi
          obtain rfl := Nat.eq_of_beq_eq_true hbe
          obtain ⟨rfl, rfl⟩ := ret_inv2 hq
          refine ⟨⟨fun _ _ h => h, fun _ h => List.mem_cons_of_mem _ h⟩, ⟨H.inj, fun j b hj T O hT hO => H.hp j b hj T O ⟨hT.1, fun i hi => hT.2 i (List.mem_cons_of_mem _ hi)⟩ hO, H.kind, fun i hi => ?_⟩, fun T O hT hO => ?_⟩
          · rcases List.mem_cons.1 hi with rfl | hi
            · exact ⟨_, hid⟩
            · exact H.lent i hi
          · cases hr with
            | sub0 _ _ _ A cap hA => rw [List.take_zero]; exact .ros0 _ _ _ hA
            | sub _ _ _ _ g N cap cap' hlv hsv hn hc =>
              have hln := lend_ok (c := c) (c' := cT c T.ids O) hE rfl rfl rfl hO.1 (hb id _ hid) (fun g hg => hO.2 id (hT.2 id (List.mem_cons_self ..)) g (by unfold lentOf; rw [hid]; exact hg))
              rw [hsv] at hln
              have hln' := hln
              obtain ⟨hN, hN2⟩ : N = xs.length ∧ N ≤ cap := by
                cases hln with
                | ros0 => exact ⟨rfl, Nat.zero_le _⟩
                | ros _ _ _ _ _ _ _ _ _ _ _ _ _ hcap => exact ⟨rfl, hcap⟩
              subst hN
              by_cases h0 : n = 0
              · subst h0; rw [List.take_zero]; exact .ros0 _ _ _ fun h => by cases h
              · have hcut := ros_cut (c := cT c T.ids O) hln' (sizeIs_inv hsi) (x := (lo : Int)) (y := ((lo + n : Nat) : Int)) (M := lo + n) ⟨by omega, by omega, by omega⟩ (by simp) (by omega) (fun h => by cases h)
                have e1 : (xs.take (((lo + n : Nat) : Int)).toNat).drop ((lo : Int)).toNat = (xs.drop lo).take n := by
                  simp only [Int.toNat_natCast]
                  rw [List.drop_take]; congr 1; omega
                rw [e1] at hcut
                simp only [Int.toNat_natCast, Nat.add_sub_cancel_left, if_neg (show ¬ lo + n = lo by omega), Option.map_some, add_plain, Nat.zero_add] at hcut
                have hl2 : ((xs.drop lo).take n).length = n := by simp; omega
                generalize (xs.drop lo).take n = zs at hcut hl2 ⊢
                cases hcut with
                | ros0 => exact absurd rfl h0
                | ros _ _ _ _ _ sz2 vs2 a1 a2 a3 a4 a5 a6 a7 =>
                  exact Rep.ros (c := cT c T.ids O) e zs g (lo * sz) cap' sz2 vs2 a1 a2 a3 a4 a5 a6 (by omega)
        · cases hq
      · cases hq
    · -- own, nil
      rename_i j e
      split at hq
      · rename_i sz hj hsz
        obtain ⟨rfl, rfl⟩ := ret_inv2 hq
        obtain rfl := hr.nilsl_inv
        have ex : Ext s { s with ids := (j, none) :: s.ids, hp := (j, .row e []) :: s.hp } := ⟨fun j' x hx => by
          show lk ((j, none) :: s.ids) j' = some x
          rw [lk_cons]
          split
          · rename_i hh; subst hh; rw [hj] at hx; cases hx
          · exact hx, fun _ h => h⟩
        have hjj : ∀ T : CS G, Ext { s with ids := (j, none) :: s.ids, hp := (j, .row e []) :: s.hp } T → lk T.ids j = some none := fun T hT => hT.1 j none (by rw [lk_cons, if_pos rfl])
        refine ⟨ex, ⟨?_, ?_, ?_, H.lent⟩, fun T O hT hO => ?_⟩
        · intro a b i ha hb
          simp only [lk_cons] at ha hb
          split at ha
          · cases ha
          · split at hb
            · cases hb
            · exact H.inj a b i ha hb
        · intro j' b hb' T O hT hO
          simp only [lk_cons] at hb'
          split at hb'
          · rename_i hh
            subst hh
            obtain rfl := Option.some.inj hb'
            refine ⟨sz, [], hsz, ⟨by simp, .inl ⟨?_, rfl⟩⟩, Reps.nil _, by simp⟩
            show svT T.ids c.sv j = _
            unfold svT
            rw [hjj T hT]
          · exact H.hp j' b hb' T O (ex.trans hT) hO
        · intro j' b hb'
          simp only [lk_cons] at hb'
          split at hb'
          · rename_i hh
            subst hh
            obtain rfl := Option.some.inj hb'
            exact .inr ⟨by rw [lk_cons, if_pos rfl], e, rfl⟩
          · rcases H.kind j' b hb' with ⟨i, b', h1, h2⟩ | ⟨h1, h2⟩
            · exact .inl ⟨i, b', ex.1 _ _ h1, h2⟩
            · exact .inr ⟨ex.1 _ _ h1, h2⟩
        · refine .osl j none 0 0 ?_ ?_
          · show (lk T.ids j).isSome = true
            rw [hjj T hT]; rfl
          · show svT T.ids c.sv j = _
            unfold svT
            rw [hjj T hT]
      · cases hq
    · -- own, osl
      rename_i j e id
      have tells : ∀ (T : CS G) (O : Nat → Prop), lk T.ids j = some (some id) → Rep (cT c T.ids O) (.osl j) v := by
        intro T O hT
        cases hr with
        | osl id A n cap hlv hsv =>
          refine .osl j A n cap ?_ ?_
          · show (lk T.ids j).isSome = true
            rw [hT]; rfl
          · show svT T.ids c.sv j = _
            unfold svT
            rw [hT]
            exact hsv
      split at hq
      · rename_i hj
        split at hq
        · cases hq
        · rename_i htk
          have hq1 := ask_inv hq
          clear hq
          obtain ⟨l1, hq, -⟩ := hq1
          split at hq
          · rename_i e' xs hid
            split at hq
            · obtain ⟨rfl, rfl⟩ := ret_inv2 hq
              obtain ⟨ex, H1⟩ := H.add hj htk
              have hjj : ∀ T : CS G, Ext { s with ids := (j, some id) :: s.ids } T → lk T.ids j = some (some id) := fun T hT => hT.1 j _ (by rw [lk_cons, if_pos rfl])
              refine ⟨ex, ⟨H1.inj, ?_, ?_, H.lent⟩, fun T O hT hO => tells T O (hjj T hT)⟩
              · intro j' b hb' T O hT hO
                simp only [lk_cons] at hb'
                split at hb'
                · rename_i hh
                  subst hh
                  obtain rfl := Option.some.inj hb'
                  obtain ⟨sz, vs, h1, h2, h3, h4⟩ := hb id _ hid
                  refine ⟨sz, vs, h1, ?_, shutFlat _ _ (cT c T.ids O) rfl rfl rfl hO.1 vs h3, h4⟩
                  show c.w.ownsRow 0 _ sz (svT T.ids c.sv j) _ vs
                  unfold svT
                  rw [hjj T hT]
                  exact h2
                · exact H.hp j' b hb' T O (ex.trans hT) hO
              · intro j' b hb'
                simp only [lk_cons] at hb'
                split at hb'
                · rename_i hh
                  subst hh
                  obtain rfl := Option.some.inj hb'
                  exact .inl ⟨id, _, by rw [lk_cons, if_pos rfl], hid, trivial⟩
                · exact H1.kind j' b hb'
            · cases hq
          · cases hq
      · rename_i i hj
        split at hq
        · rename_i hi
          obtain rfl := Nat.eq_of_beq_eq_true hi
          obtain ⟨rfl, rfl⟩ := ret_inv2 hq
          exact told_same H fun T O hT hO => tells T O (hT.1 j _ hj)
        · cases hq
      · cases hq
    · -- sub
      rename_i j sz id sz' lo n
      split at hq
      · rename_i i hj
        split at hq
        · rename_i hi hz
          obtain rfl := Nat.eq_of_beq_eq_true hi
          obtain rfl := Nat.eq_of_beq_eq_true hz
          obtain ⟨rfl, rfl⟩ := ret_inv2 hq
          refine told_same H fun T O hT hO => ?_
          have hT' := hT.1 j _ hj
          cases hr with
          | sub0 _ _ _ A cap hA => exact .sub0 _ _ _ _ _ hA
          | sub _ _ _ _ g N cap cap' hlv hsv hn hc =>
            refine .sub j sz lo n g N cap cap' ?_ ?_ hn hc
            · show (lk T.ids j).isSome = true
              rw [hT']; rfl
            · show svT T.ids c.sv j = _
              unfold svT
              rw [hT']
              exact hsv
        · cases hq
      · cases hq
    · -- ptr
      rename_i j off t ps id off'
      split at hq
      · cases hq
      · have tells : ∀ (T : CS G) (O : Nat → Prop), lk T.ids j = some (some id) → Rep (cT c T.ids O) (.ptr j off') v := by
          intro T O hT
          obtain rfl := hr.ptr_inv
          have e1 : c.bl id = (cT c T.ids O).bl j := by
            show _ = blT T.ids c.bl j
            unfold blT
            rw [hT]
          rw [e1]
          refine .ptr j off' ?_
          show (lk T.ids j).isSome = true
          rw [hT]; rfl
        split at hq
        · rename_i i hj
          split at hq
          · rename_i hi
            obtain rfl := Nat.eq_of_beq_eq_true hi
            obtain ⟨rfl, rfl⟩ := ret_inv2 hq
            exact told_same H fun T O hT hO => tells T O (hT.1 j _ hj)
          · cases hq
        · cases hq
        · rename_i hj
          split at hq
          · cases hq
          · rename_i htk
            have hq1 := ask_inv hq
            clear hq
            obtain ⟨l1, hq, -⟩ := hq1
            split at hq
            · rename_i t' cs hid
              split at hq
              · obtain ⟨⟨cs', s2⟩, l2, l3, hq2, hq3⟩ := bind_inv hq
                obtain ⟨rfl, rfl⟩ := ret_inv2 hq3
                obtain ⟨ex, H1⟩ := H.add hj htk
                obtain ⟨vs, hv, hrs⟩ := hb id _ hid
                obtain ⟨e2, H2, R2⟩ := canonAll_ok ih ps cs _ cs' s2 l2 vs hq2 hrs H1
                have hj2 : lk s2.ids j = some (some id) := e2.1 j _ (by rw [lk_cons, if_pos rfl])
                refine ⟨ex.trans e2, ⟨H2.inj, ?_, ?_, H2.lent⟩, fun T O hT hO => tells T O (hT.1 j _ hj2)⟩
                · intro j' b hb' T O hT hO
                  simp only [lk_cons] at hb'
                  split at hb'
                  · rename_i hh
                    subst hh
                    obtain rfl := Option.some.inj hb'
                    refine ⟨vs, ?_, R2 T O hT hO⟩
                    show c.w.heap[blT T.ids c.bl j]? = _
                    unfold blT
                    rw [hT.1 j _ hj2]
                    exact hv
                  · exact H2.hp j' b hb' T O hT hO
                · intro j' b hb'
                  simp only [lk_cons] at hb'
                  split at hb'
                  · rename_i hh
                    subst hh
                    obtain rfl := Option.some.inj hb'
                    exact .inl ⟨id, _, hj2, hid, trivial⟩
                  · exact H2.kind j' b hb'
              · cases hq
            · cases hq
    · -- yld
      rename_i j key ps id
      have tells : ∀ (T : CS G) (O : Nat → Prop), lk T.ids j = some (some id) → Rep (cT c T.ids O) (.yld j) v := by
        intro T O hT
        cases hr with
        | yld _ hlv =>
          have e1 : c.bl id = (cT c T.ids O).bl j := by
            show _ = blT T.ids c.bl j
            unfold blT
            rw [hT]
          rw [e1]
          refine .yld j ?_
          show (lk T.ids j).isSome = true
          rw [hT]; rfl
      split at hq
      · rename_i i hj
        split at hq
        · rename_i hi
          obtain rfl := Nat.eq_of_beq_eq_true hi
          obtain ⟨rfl, rfl⟩ := ret_inv2 hq
          exact told_same H fun T O hT hO => tells T O (hT.1 j _ hj)
        · cases hq
      · cases hq
      · rename_i hj
        split at hq
        · cases hq
        · rename_i htk
          have hq1 := ask_inv hq
          clear hq
          obtain ⟨l1, hq, -⟩ := hq1
          split at hq
          · rename_i key' ls' cs hid
            split at hq
            · obtain ⟨⟨cs', s2⟩, l2, l3, hq2, hq3⟩ := bind_inv hq
              obtain ⟨rfl, rfl⟩ := ret_inv2 hq3
              obtain ⟨ex, H1⟩ := H.add hj htk
              obtain ⟨vs, ps0, as0, bd0, D0, hv, hsite, hrs⟩ := hb id _ hid
              obtain ⟨e2, H2, R2⟩ := canonAll_ok ih ps cs _ cs' s2 l2 vs hq2 hrs H1
              have hj2 : lk s2.ids j = some (some id) := e2.1 j _ (by rw [lk_cons, if_pos rfl])
              refine ⟨ex.trans e2, ⟨H2.inj, ?_, ?_, H2.lent⟩, fun T O hT hO => tells T O (hT.1 j _ hj2)⟩
              · intro j' b hb' T O hT hO
                simp only [lk_cons] at hb'
                split at hb'
                · rename_i hh
                  subst hh
                  obtain rfl := Option.some.inj hb'
                  refine ⟨vs, ps0, as0, bd0, D0, ?_, hsite, R2 T O hT hO⟩
                  show c.w.heap[blT T.ids c.bl j]? = _
                  unfold blT
                  rw [hT.1 j _ hj2]
                  exact hv
                · exact H2.hp j' b hb' T O hT hO
              · intro j' b hb'
                simp only [lk_cons] at hb'
                split at hb'
                · rename_i hh
                  subst hh
                  obtain rfl := Option.some.inj hb'
                  exact .inl ⟨id, _, hj2, hid, trivial⟩
                · exact H2.kind j' b hb'
            · cases hq
          · cases hq
    · -- mset
      rename_i j id
      have tells : ∀ (T : CS G) (O : Nat → Prop), lk T.ids j = some (some id) → Rep (cT c T.ids O) (.mapv j) v := fun T O hT => mapv_tells hr hT O
      split at hq
      · rename_i hj
        split at hq
        · cases hq
        · rename_i htk
          have hq1 := ask_inv hq
          clear hq
          obtain ⟨l1, hq, -⟩ := hq1
          split at hq
          · rename_i ks hid
            obtain ⟨rfl, rfl⟩ := ret_inv2 hq
            obtain ⟨ex, H1⟩ := H.add hj htk
            have hjj : ∀ T : CS G, Ext { s with ids := (j, some id) :: s.ids } T → lk T.ids j = some (some id) := fun T hT => hT.1 j _ (by rw [lk_cons, if_pos rfl])
            refine ⟨ex, ⟨H1.inj, ?_, ?_, H.lent⟩, fun T O hT hO => tells T O (hjj T hT)⟩
            · intro j' b hb' T O hT hO
              simp only [lk_cons] at hb'
              split at hb'
              · rename_i hh
                subst hh
                obtain rfl := Option.some.inj hb'
                obtain ⟨es, clock, h1, h2⟩ := hb id _ hid
                refine ⟨es, clock, ?_, h2⟩
                show c.w.heap[blT T.ids c.bl j]? = _
                unfold blT
                rw [hjj T hT]
                exact h1
              · exact H.hp j' b hb' T O (ex.trans hT) hO
            · intro j' b hb'
              simp only [lk_cons] at hb'
              split at hb'
              · rename_i hh
                subst hh
                obtain rfl := Option.some.inj hb'
                exact .inl ⟨id, _, by rw [lk_cons, if_pos rfl], hid, trivial⟩
              · exact H1.kind j' b hb'
          · cases hq
      · cases hq
    · -- mrow
      rename_i j e id
      have tells : ∀ (T : CS G) (O : Nat → Prop), lk T.ids j = some (some id) → Rep (cT c T.ids O) (.mapv j) v := fun T O hT => mapv_tells hr hT O
      split at hq
      · rename_i hj
        split at hq
        · cases hq
        · rename_i htk
          have hq1 := ask_inv hq
          clear hq
          obtain ⟨l1, hq, -⟩ := hq1
          split at hq
          · rename_i e' xs hid
            split at hq
            · obtain ⟨rfl, rfl⟩ := ret_inv2 hq
              obtain ⟨ex, H1⟩ := H.add hj htk
              have hjj : ∀ T : CS G, Ext { s with ids := (j, some id) :: s.ids } T → lk T.ids j = some (some id) := fun T hT => hT.1 j _ (by rw [lk_cons, if_pos rfl])
              refine ⟨ex, ⟨H1.inj, ?_, ?_, H.lent⟩, fun T O hT hO => tells T O (hjj T hT)⟩
              · intro j' b hb' T O hT hO
                simp only [lk_cons] at hb'
                split at hb'
                · rename_i hh
                  subst hh
                  obtain rfl := Option.some.inj hb'
                  obtain ⟨es, clock, h1, h2, h3, h4, h5, h6, h7⟩ := hb id _ hid
                  have hsv : (cT c T.ids O).sv j = c.sv id := by
                    show svT T.ids c.sv j = _
                    unfold svT; rw [hjj T hT]
                  have hbl : (cT c T.ids O).bl j = c.bl id := by
                    show blT T.ids c.bl j = _
                    unfold blT; rw [hjj T hT]
                  refine ⟨es, clock, ?_, h2, fun jj y hj => ?_, fun i p s hh => (by cases hh), ?_, ?_, ?_⟩
                  · rw [hbl]; exact h1
                  · obtain ⟨en, g1, g2, g3⟩ := h3 jj y hj
                    refine ⟨en, g1, g2, fun hne => ?_⟩
                    obtain ⟨g, sl, q, vs, sz, us, r1, r2, r3, r4, r5, r6, r7, r8, r9, r10⟩ := g3 hne
                    refine ⟨g, sl, q, vs, sz, us, by rw [hsv]; exact r1, by rw [hsv]; exact r2, r3, r4, r5, ?_, r7, r8, shutFlat _ _ (cT c T.ids O) rfl rfl rfl hO.1 us r9, r10⟩
                    exact ⟨r6.1, fun jk hjk => (r6.2 jk hjk).less (c' := cT c T.ids O) hE rfl rfl rfl hO.1 4 (splitRo_shut r4 (hE.shut e' y.2) _ (List.getElem_mem hjk))⟩
                  · rw [hsv]; exact h5
                  · rw [hsv, hbl]; exact h6
                  · rw [hsv]; exact h7
                · exact H.hp j' b hb' T O (ex.trans hT) hO
              · intro j' b hb'
                simp only [lk_cons] at hb'
                split at hb'
                · rename_i hh
                  subst hh
                  obtain rfl := Option.some.inj hb'
                  exact .inl ⟨id, _, by rw [lk_cons, if_pos rfl], hid, rfl, rfl, rfl⟩
                · exact H1.kind j' b hb'
            · cases hq
          · cases hq
      · cases hq
    · -- romap, mapv
      rename_i e id
      have hq1 := ask_inv hq
      clear hq
      obtain ⟨l1, hq, -⟩ := hq1
      split at hq
      · rename_i e' xs hid
        split at hq
        · obtain ⟨rfl, rfl⟩ := ret_inv2 hq
          refine ⟨⟨fun _ _ h => h, fun _ h => List.mem_cons_of_mem _ h⟩, ⟨H.inj, fun j b hj T O hT hO => H.hp j b hj T O ⟨hT.1, fun i hi => hT.2 i (List.mem_cons_of_mem _ hi)⟩ hO, H.kind, fun i hi => ?_⟩, fun T O hT hO => ?_⟩
          · rcases List.mem_cons.1 hi with rfl | hi
            · exact ⟨_, hid⟩
            · exact H.lent i hi
          · obtain ⟨hlv, rfl⟩ := hr.mapv_inv
            exact lend_map (c' := cT c T.ids O) hE rfl rfl rfl hO.1 (hb id _ hid) fun g hg => hO.2 id (hT.2 id (List.mem_cons_self ..)) g (by unfold lentOf; rw [hid]; exact hg)
        · cases hq
      · cases hq
    · -- romap, romap
      split at hq
      · obtain ⟨rfl, rfl⟩ := ret_inv2 hq
        exact told_same H fun T O hT hO => less 1 hr rfl T O hO
      · cases hq
    · -- agg
      obtain ⟨⟨cs', s2⟩, l2, l3, hq2, hq3⟩ := bind_inv hq
      obtain ⟨rfl, rfl⟩ := ret_inv2 hq3
      obtain ⟨vs, rfl, hrs⟩ := hr.agg_inv
      obtain ⟨e2, H2, R2⟩ := canonAll_ok ih _ _ _ _ _ l2 vs hq2 hrs H
      exact ⟨e2, H2, fun T O hT hO => .agg cs' vs (R2 T O hT hO).1 (R2 T O hT hO).2⟩
    · -- tup
      obtain ⟨⟨cs', s2⟩, l2, l3, hq2, hq3⟩ := bind_inv hq
      obtain ⟨rfl, rfl⟩ := ret_inv2 hq3
      obtain ⟨vs, rfl, hrs⟩ := hr.tup_inv
      obtain ⟨e2, H2, R2⟩ := canonAll_ok ih _ _ _ _ _ l2 vs hq2 hrs H
      exact ⟨e2, H2, fun T O hT hO => .tup cs' vs (R2 T O hT hO).1 (R2 T O hT hO).2⟩
    · -- fn
      split at hq
      · obtain ⟨⟨c1, s1⟩, l2, l3, hq2, hq3⟩ := bind_inv hq
        obtain ⟨⟨c2, s2⟩, l4, l5, hq4, hq5⟩ := bind_inv hq3
        obtain ⟨rfl, rfl⟩ := ret_inv2 hq5
        cases hr with
        | fnv f cs ds us vs hl hr hl' hr' =>
          obtain ⟨e1, H1, R1⟩ := canonAll_ok ih _ _ _ c1 s1 l2 us hq2 ⟨hl, hr⟩ H
          obtain ⟨e2, H2, R2⟩ := canonAll_ok ih _ _ _ _ _ l4 vs hq4 ⟨hl', hr'⟩ H1
          exact ⟨e1.trans e2, H2, fun T O hT hO => .fnv _ _ _ us vs (R1 T O (e2.trans hT) hO).1 (R1 T O (e2.trans hT) hO).2 (R2 T O hT hO).1 (R2 T O hT hO).2⟩
      · cases hq
    · cases hq

theorem Inv.empty : Inv c h ⟨[], [], []⟩ := ⟨fun _ _ _ h => by simp [lk] at h, fun _ _ h => by simp [lk] at h, fun _ _ h => by simp [lk] at h, fun _ h => by simp at h⟩
theorem canonL_ok (hE : EnvOk c.P c.E) (hb : ∀ id b, h id = some b → BlkOk c id b) {ps : List Pat} {as as' : List (AV G)} {s' : CS G} {l : List Nat} {vs : List Value}
    (hq : (canonL c.P ps as).trace h = some ((as', s'), l)) (hr : Reps c as vs) : Inv c h s' ∧ ∀ (O : Nat → Prop), GoodO c h s' O → Reps (cT c s'.ids O) as' vs ∧ ∀ j b, lk s'.hp j = some b → BlkOk (cT c s'.ids O) j b := by
  obtain ⟨_, H, R⟩ := canonAll_ok (canonP_ok hE hb 8) ps as _ as' s' l vs hq hr Inv.empty
  exact ⟨H, fun O hO => ⟨R s' O (Ext.refl _) hO, fun j b hj => H.hp j b hj s' O (Ext.refl _) hO⟩⟩
end
end Go.Proofs.Ytemdppcnhlnicaa.Ev
