/- An entry that is looked at through blocks of its own goes back into its map. -/
import Derived.Test.YtemdppcnhlnicaaEvS
set_option linter.unusedVariables false
set_option linter.unusedSimpArgs false
namespace Go.Proofs.Ytemdppcnhlnicaa.Ev
open Go Go.RowKit
variable {G : Nat → Type}

theorem splitO_eq {cs : List (AV G)} : ∀ {q : List (AV G) × Nat}, splitO cs = some q → cs = q.1 ++ [.osl q.2] := by
  induction cs with
  | nil => intro q h; cases h
  | cons a r ih =>
    intro q h
    unfold splitO at h
    split at h
    · obtain rfl := Option.some.inj h; rfl
    · obtain ⟨q', h1, rfl⟩ := Option.map_eq_some_iff.1 h
      have := ih h1
      simp only [List.cons_append]
      rw [← this]
theorem splitRo_append (f : List (AV G)) (e : Nat) (ts : List (G e)) : splitRo (f ++ [.ros e ts]) = some ⟨f, e, ts⟩ := by
  induction f with
  | nil => rfl
  | cons a r ih =>
    have hne : r ++ [AV.ros e ts] ≠ [] := by simp
    rw [List.cons_append]
    unfold splitRo
    split
    · rename_i h1 h2; exact absurd h2 hne
    · rw [ih]; rfl
theorem setVal_length {α : Type} : ∀ (l : List (Int × α)) (i : Nat) (x : α), (setVal l i x).length = l.length := by
  intro l
  induction l with
  | nil => intro i x; rfl
  | cons p r ih => intro i x; cases i <;> simp [setVal, ih]
theorem setVal_get {α : Type} : ∀ (l : List (Int × α)) (i j : Nat) (x : α) (y : Int × α), (setVal l i x)[j]? = some y → ∃ z, l[j]? = some z ∧ y.1 = z.1 ∧ (j ≠ i → y.2 = z.2) ∧ (j = i → y.2 = x) := by
  intro l
  induction l with
  | nil => intro i j x y h; simp [setVal] at h
  | cons p r ih =>
    intro i j x y h
    cases i with
    | zero =>
      cases j with
      | zero => simp only [setVal, List.getElem?_cons_zero, Option.some.injEq] at h; subst h; exact ⟨p, rfl, rfl, fun h => absurd rfl h, fun _ => rfl⟩
      | succ j => exact ⟨y, by simpa [setVal] using h, rfl, fun _ => rfl, fun h => by omega⟩
    | succ i =>
      cases j with
      | zero => simp only [setVal, List.getElem?_cons_zero, Option.some.injEq] at h; subst h; exact ⟨p, rfl, rfl, fun _ => rfl, fun h => by omega⟩
      | succ j =>
        obtain ⟨z, h1, h2, h3, h4⟩ := ih i j x y (by simpa [setVal] using h)
        exact ⟨z, by simpa using h1, h2, fun h => h3 (by omega), fun h => h4 (by omega)⟩

section
variable {P : Program} {E : Env G} {fc : FC} {bl : Nat → Nat} {sv : Nat → Value} {st : St G} {a : Act} {w : World}

/-- The blocks of a map, one entry told anew. -/
def famSet (S : Value) (n i : Nat) (p s : Value) : Value := .tuple ((List.range (2 * n)).map fun k => if k = 2 * i then p else if k = 2 * i + 1 then s else (famV S k).getD undef).toArray
theorem famSet_at (S : Value) (n i : Nat) (p s : Value) {k : Nat} (hk : k < 2 * n) : famV (famSet S n i p s) k = some (if k = 2 * i then p else if k = 2 * i + 1 then s else (famV S k).getD undef) := by
  show (((List.range (2 * n)).map fun k => if k = 2 * i then p else if k = 2 * i + 1 then s else (famV S k).getD undef).toArray)[k]? = _
  simp [hk]

theorem closeB_ok (hE : EnvOk P E) (hR : Rel P E fc bl sv st a w) (id : Nat) (hna : ¬ fc.an id) : ∃ sv', Rel P E fc bl sv' (closeB E st id) a w := by
  unfold closeB
  split
  · rename_i e xs i p s hid
    split
    · rename_i t cs e' ts hp hs
      split
      · rename_i q hso
        split
        · rename_i y h1 h2 hy
          have hqs : q.2 = s := Nat.eq_of_beq_eq_true h1
          have hte : t = e := Nat.eq_of_beq_eq_true h2
          have hey : E.enc e y = q.1 ++ [.ros e' ts] := hE.decX e _ y hy
          obtain ⟨es, clock, b1, b2, b3, b4, b5, b6, b7⟩ := hR.m.blks id _ hid
          obtain ⟨k1, k2, k3, en0, k4, k5⟩ := b4 i p s rfl
          obtain ⟨vs, f1, f2⟩ := hR.m.blks p _ hp
          obtain ⟨sz, us, g1, g2, g3, g4⟩ := hR.m.blks s _ hs
          have b1' : w.heap[bl id]? = some (.map es clock) := b1
          have f1' : w.heap[bl p]? = some (.cells vs.toArray t (0, 0)) := f1
          have g2' : w.ownsRow 0 e' sz (sv s) ts.length us := g2
          rw [splitO_eq hso, hqs] at f2
          have hlast : ∃ vf, vs = vf ++ [sv s] ∧ Reps (st.cx P E fc bl sv w) q.1 vf := by
            have h3 := f2.drop q.1.length
            rw [List.drop_left] at h3
            have h4 := f2.take q.1.length
            rw [List.take_left] at h4
            obtain ⟨v, vs', e1, e2, e3⟩ := h3.cons_inv
            obtain rfl := e3.nil_inv
            refine ⟨vs.take q.1.length, ?_, h4⟩
            have e4 : v = sv s := by
              cases e2 with
              | osl _ A n cap h hsv => exact hsv.symm
            rw [← e4, ← e1, List.take_append_drop]
          obtain ⟨vf, rfl, hvf⟩ := hlast
          have np : p ≠ id := fun h => by rw [h, hid] at hp; cases hp
          have ns : s ≠ id := fun h => by rw [h, hid] at hs; cases hs
          have nps : p ≠ s := fun h => by rw [h, hs] at hp; cases hp
          generalize hst' : ({ st with heap := (id, .mrow e (setVal xs i y) none) :: (p, .dead) :: (s, .dead) :: st.heap } : St G) = st'
          have hget : ∀ d, st'.get d = st.get d := by intro d; rw [← hst']; rfl
          have hb : ∀ j, st'.blk j = if j = id then some (.mrow e (setVal xs i y) none) else if j = p then some .dead else if j = s then some .dead else st.blk j := by
            intro j
            rw [← hst']
            show lk (_ :: _ :: _ :: st.heap) j = _
            rw [lk_cons', lk_cons', lk_cons']
            rfl
          let S' : Value := famSet (sv id) xs.length i (.pointer (some ⟨bl p, 0, none⟩)) (sv s)
          have hS : ∀ k, k < 2 * xs.length → famV S' k = some (if k = 2 * i then .pointer (some ⟨bl p, 0, none⟩) else if k = 2 * i + 1 then sv s else (famV (sv id) k).getD undef) := fun k hk => famSet_at _ _ _ _ _ hk
          have old : ∀ j, j < xs.length → holeAt (some (i, p, s)) ≠ some j → ∃ g sl, famV (sv id) (2 * j) = some (.pointer (some ⟨g, 0, none⟩)) ∧ famV (sv id) (2 * j + 1) = some sl := by
            intro j hj hne
            obtain ⟨en, _, _, h3⟩ := b3 j xs[j] (List.getElem?_eq_getElem hj)
            obtain ⟨g, sl, _, _, _, _, r1, r2, _⟩ := h3 hne
            exact ⟨g, sl, r1, r2⟩
          have hSo : ∀ k, k < 2 * xs.length → k / 2 ≠ i → famV S' k = famV (sv id) k := by
            intro k hk hne
            rw [hS k hk, if_neg (by omega), if_neg (by omega)]
            obtain ⟨g, sl, r1, r2⟩ := old (k / 2) (by omega) (by simp only [holeAt, Option.map_some, ne_eq, Option.some.injEq]; omega)
            rcases Nat.mod_two_eq_zero_or_one k with hm | hm
            · rw [show k = 2 * (k / 2) by omega, r1]; rfl
            · rw [show k = 2 * (k / 2) + 1 by omega, r2]; rfl
          have hsl : sv s = .slice none 0 0 ∨ ∃ g2 cap, sv s = .slice (some ⟨g2, 0, none⟩) ts.length cap := by
            rcases g2'.2 with ⟨a1, _⟩ | ⟨g2, cap, cur, a1, _⟩
            · exact .inl a1
            · exact .inr ⟨g2, cap, a1⟩
          have hP : famN S' (2 * i) = some (bl p) := by
            unfold famN
            rw [hS _ (by omega), if_pos rfl]; rfl
          have hQ : famN S' (2 * i + 1) = (sv s).ownBlock := by
            unfold famN
            rw [hS _ (by omega), if_neg (by omega), if_pos rfl]
            rcases hsl with h | ⟨g2, cap, h⟩ <;> rw [h] <;> rfl
          have ownp : owns st bl sv p (bl p) := by unfold owns; rw [hp]
          have owns_s : ∀ g, (sv s).ownBlock = some g → owns st bl sv s g := fun g h => by unfold owns; rw [hs]; exact h
          have ownid : ∀ g, (bl id = g ∨ famO (sv id) xs.length (some i) g) → owns st bl sv id g := fun g h => by unfold owns; rw [hid]; exact h
          -- who owned what the map owns now
          have who : ∀ k g, k < 2 * xs.length → famN S' k = some g → (k = 2 * i ∧ owns st bl sv p g) ∨ (k = 2 * i + 1 ∧ owns st bl sv s g) ∨ (k / 2 ≠ i ∧ famN (sv id) k = some g ∧ owns st bl sv id g) := by
            intro k g hk hn
            by_cases h : k / 2 = i
            · rcases Nat.mod_two_eq_zero_or_one k with hm | hm
              · have hk2 : k = 2 * i := by omega
                subst hk2
                rw [hP] at hn
                exact .inl ⟨rfl, Option.some.inj hn ▸ ownp⟩
              · have hk2 : k = 2 * i + 1 := by omega
                subst hk2
                rw [hQ] at hn
                exact .inr (.inl ⟨rfl, owns_s g hn⟩)
            · have hn' : famN (sv id) k = some g := by
                unfold famN at hn ⊢
                rw [← hSo k hk h]; exact hn
              exact .inr (.inr ⟨h, hn', ownid g (.inr ⟨k, hk, by simp only [ne_eq, Option.some.injEq]; omega, hn'⟩)⟩)
          have whoI : ∀ g, owns st' bl (at_ sv id S') id g → owns st bl sv id g ∨ owns st bl sv p g ∨ owns st bl sv s g := by
            intro g ho
            unfold owns at ho
            rw [hb, if_pos rfl] at ho
            simp only [at_same, setVal_length] at ho
            rcases ho with ho | ⟨k, c1, c2, c3⟩
            · exact .inl (ownid g (.inl ho))
            · rcases who k g c1 c3 with ⟨_, h⟩ | ⟨_, h⟩ | ⟨_, _, h⟩
              · exact .inr (.inl h)
              · exact .inr (.inr h)
              · exact .inl h
          have whoO : ∀ j g, j ≠ id → owns st' bl (at_ sv id S') j g → j ≠ p ∧ j ≠ s ∧ owns st bl sv j g := by
            intro j g hj ho
            unfold owns at ho
            rw [hb, if_neg hj] at ho
            by_cases hjp : j = p
            · rw [if_pos hjp] at ho; exact ho.elim
            · by_cases hjs : j = s
              · rw [if_neg hjp, if_pos hjs] at ho; exact ho.elim
              · rw [if_neg hjp, if_neg hjs, at_other _ _ hj] at ho
                exact ⟨hjp, hjs, ho⟩
          have whoA : ∀ j g, owns st' bl (at_ sv id S') j g → ∃ i', owns st bl sv i' g := by
            intro j g ho
            by_cases hj : j = id
            · subst hj
              rcases whoI g ho with h | h | h <;> exact ⟨_, h⟩
            · exact ⟨j, (whoO j g hj ho).2.2⟩
          have lv' : ∀ j, (st.blk j).isSome = true → (st'.blk j).isSome = true := by
            intro j hj
            rw [hb]
            by_cases c1 : j = id
            · simp [c1]
            · by_cases c2 : j = p
              · rw [if_neg c1, if_pos c2]; rfl
              · by_cases c3 : j = s
                · rw [if_neg c1, if_neg c2, if_pos c3]; rfl
                · rw [if_neg c1, if_neg c2, if_neg c3]; exact hj
          have kS : KeepsS (st.cx P E fc bl sv w) (st'.cx P E fc bl (at_ sv id S') w) := by
            refine ⟨rfl, rfl, Nat.le_refl _, fun b hbl ho => ⟨rfl, ?_⟩, fun j hj => ⟨lv' j hj, rfl, fun A n cap hsv => ?_⟩⟩
            · rintro (⟨j, hj⟩ | hj)
              · obtain ⟨i', h⟩ := whoA j b hj
                exact ho (.inl ⟨i', h⟩)
              · exact ho (.inr hj)
            · by_cases hj : j = id
              · obtain ⟨cs0, hcs⟩ := b7
                rw [hj] at hsv
                have : sv id = .slice A n cap := hsv
                have hcs' : sv id = .tuple cs0 := hcs
                rw [this] at hcs'
                cases hcs'
              · show at_ sv id S' j = _
                rw [at_other _ _ hj]; exact hsv
          have anch : ∀ j, fc.an j → (st'.blk j).isSome = true ∧ bl j = fc.bl0 j ∧ at_ sv id S' j = fc.sv0 j := by
            intro j hj
            obtain ⟨g1, g2, g3⟩ := hR.m.anch j hj
            have c1 : j ≠ id := fun h => hna (by rw [← h]; exact hj)
            refine ⟨?_, g2, (at_other _ _ c1).trans g3⟩
            rw [hb, if_neg c1]
            by_cases c2 : j = p
            · rw [if_pos c2]; rfl
            · rw [if_neg c2]
              by_cases c3 : j = s
              · rw [if_pos c3]; rfl
              · rw [if_neg c3]; exact g1
          refine ⟨at_ sv id S', ⟨?_, ?_, hR.m.os, hR.m.tape, hR.m.output, hR.m.grow, hR.m.frame, ?_, anch, hR.m.drawn⟩, ?_, hR.size, fun d => ?_⟩
          · intro j b hj
            by_cases c1 : j = id
            · subst c1
              rw [hb, if_pos rfl] at hj
              obtain rfl := Option.some.inj hj
              have hsv : (st'.cx P E fc bl (at_ sv j S') w).sv j = S' := at_same _ _ _
              refine ⟨es, clock, b1, by rw [setVal_length]; exact b2, fun jj z hz => ?_, fun _ _ _ h => (by cases h), ?_, ?_, ?_⟩
              · obtain ⟨z0, d1, d2, d3, d4⟩ := setVal_get xs i jj y z hz
                obtain ⟨en, e1, e2, e3⟩ := b3 jj z0 d1
                have hjl : jj < xs.length := (List.getElem?_eq_some_iff.1 d1).1
                refine ⟨en, e1, by rw [d2]; exact e2, fun _ => ?_⟩
                rw [hsv]
                by_cases hji : jj = i
                · rw [d4 hji]
                  subst hji
                  have hen : en = en0 := by rw [e1] at k4; exact Option.some.inj k4
                  refine ⟨bl p, sv s, ⟨q.1, e', ts⟩, vf, sz, us, ?_, ?_, ?_, ?_, ?_, hvf.keepS kS, g1, g2, g3.keepS kS, g4⟩
                  · rw [hS _ (by omega), if_pos rfl]
                  · rw [hS _ (by omega), if_neg (by omega), if_pos rfl]
                  · rw [hen]; exact k5
                  · show splitRo (E.enc e y) = _
                    rw [hey, splitRo_append]
                  · show w.heap[bl p]? = _
                    rw [f1', hte]
                · rw [d3 hji]
                  exact (e3 (by simp only [holeAt, Option.map_some, ne_eq, Option.some.injEq]; omega)).keepS (j' := 0) kS (fun _ => rfl) (hSo _ (by omega) (by omega)) (hSo _ (by omega) (by omega))
              · rw [hsv, setVal_length]
                intro k k' g c1 c2 _ _ c3 c4
                rcases who k g c1 c3 with ⟨h, o⟩ | ⟨h, o⟩ | ⟨h, n1, o⟩ <;> rcases who k' g c2 c4 with ⟨h', o'⟩ | ⟨h', o'⟩ | ⟨h', n2, o'⟩
                · rw [h, h']
                · exact absurd (hR.m.disj _ _ _ o o') nps
                · exact absurd (hR.m.disj _ _ _ o o') np
                · exact absurd (hR.m.disj _ _ _ o' o) nps
                · rw [h, h']
                · exact absurd (hR.m.disj _ _ _ o o') ns
                · exact absurd (hR.m.disj _ _ _ o' o) np
                · exact absurd (hR.m.disj _ _ _ o' o) ns
                · exact b5 k k' g c1 c2 (by simp only [holeAt, Option.map_some, ne_eq, Option.some.injEq]; omega) (by simp only [holeAt, Option.map_some, ne_eq, Option.some.injEq]; omega) n1 n2
              · rw [hsv, setVal_length]
                rintro ⟨k, c1, _, c3⟩
                have oid := ownid (bl j) (.inl rfl)
                rcases who k _ c1 c3 with ⟨_, o⟩ | ⟨_, o⟩ | ⟨h, n1, o⟩
                · exact np (hR.m.disj _ _ _ o oid)
                · exact ns (hR.m.disj _ _ _ o oid)
                · exact b6 ⟨k, c1, by simp only [holeAt, Option.map_some, ne_eq, Option.some.injEq]; omega, n1⟩
              · exact ⟨_, hsv⟩
            · rw [hb, if_neg c1] at hj
              by_cases c2 : j = p
              · rw [if_pos c2] at hj
                obtain rfl := Option.some.inj hj
                trivial
              · by_cases c3 : j = s
                · rw [if_neg c2, if_pos c3] at hj
                  obtain rfl := Option.some.inj hj
                  trivial
                · rw [if_neg c2, if_neg c3] at hj
                  exact (hR.m.blks j b hj).keepS kS (fun _ => rfl) (by show (st.blk j).isSome = true; rw [hj]; rfl) (at_other _ _ c1)
          · intro j j' g o o'
            by_cases c1 : j = id <;> by_cases c2 : j' = id
            · rw [c1, c2]
            · rw [c1] at o
              obtain ⟨n1, n2, o2⟩ := whoO j' g c2 o'
              rcases whoI g o with h | h | h
              · exact absurd (hR.m.disj _ _ _ o2 h) c2
              · exact absurd (hR.m.disj _ _ _ o2 h) n1
              · exact absurd (hR.m.disj _ _ _ o2 h) n2
            · rw [c2] at o'
              obtain ⟨n1, n2, o2⟩ := whoO j g c1 o
              rcases whoI g o' with h | h | h
              · exact absurd (hR.m.disj _ _ _ o2 h) c1
              · exact absurd (hR.m.disj _ _ _ o2 h) n1
              · exact absurd (hR.m.disj _ _ _ o2 h) n2
            · exact hR.m.disj _ _ _ (whoO j g c1 o).2.2 (whoO j' g c2 o').2.2
          · intro j g o
            obtain ⟨i', h⟩ := whoA j g o
            exact hR.m.own i' g h
          · obtain ⟨ds, h1, h2, h3⟩ := hR.marks
            refine ⟨ds, h1, h2, fun D hD => ?_⟩
            obtain ⟨d1, d2, d3⟩ := h3 D hD
            exact ⟨d1, d2, (kS.mem D (Array.getElem?_eq_some_iff.1 d1).1 d3).2⟩
          · rw [hget]; exact (hR.tmps d).keepS kS
        · exact ⟨sv, hR⟩
      · exact ⟨sv, hR⟩
    · exact ⟨sv, hR⟩
  · exact ⟨sv, hR⟩
theorem closeB_get (id d : Nat) : (closeB E st id).get d = st.get d := by
  unfold closeB
  split
  · split
    · split
      · split <;> rfl
      · rfl
    · rfl
  · rfl
theorem mem_not {x : Nat} : ∀ {l : List Nat}, mem x l = false → x ∉ l := by
  intro l
  induction l with
  | nil => intro _ h; cases h
  | cons y r ih =>
    intro h hx
    unfold mem at h
    split at h
    · cases h
    · rename_i hb
      rcases List.mem_cons.1 hx with rfl | h1
      · rw [Nat.beq_refl] at hb; cases hb
      · exact ih h h1
theorem normS_ok (hE : EnvOk P E) {no : List Nat} (hna : ∀ j, fc.an j → j ∈ no) : ∀ (slots : List (Nat × Pat)) (st : St G) (sv : Nat → Value), Rel P E fc bl sv st a w → ∃ sv', Rel P E fc bl sv' (normS E no slots st) a w := by
  intro slots
  induction slots with
  | nil => intro st sv hR; exact ⟨sv, hR⟩
  | cons p r ih =>
    intro st sv hR
    obtain ⟨d, p⟩ := p
    unfold normS
    split
    · split
      · split
        · exact ih _ _ hR
        · rename_i hm
          obtain ⟨sv', h⟩ := closeB_ok hE hR _ (fun hj => mem_not hm (hna _ hj))
          exact ih _ _ h
      · exact ih _ _ hR
    · split
      · split
        · exact ih _ _ hR
        · rename_i hm
          obtain ⟨sv', h⟩ := closeB_ok hE hR _ (fun hj => mem_not hm (hna _ hj))
          exact ih _ _ h
      · exact ih _ _ hR
    · exact ih _ _ hR
theorem normS_get (no : List Nat) : ∀ (slots : List (Nat × Pat)) (st : St G) (d : Nat), (normS E no slots st).get d = st.get d := by
  intro slots
  induction slots with
  | nil => intro st d; rfl
  | cons p r ih =>
    intro st d
    obtain ⟨d', p⟩ := p
    unfold normS
    split
    · split
      · split
        · exact ih _ _
        · rw [ih, closeB_get]
      · exact ih _ _
    · split
      · split
        · exact ih _ _
        · rw [ih, closeB_get]
      · exact ih _ _
    · exact ih _ _
theorem normF_ok (hE : EnvOk P E) {foot : List Pat} (hfoot : ∀ j, fc.an j → ∃ p ∈ foot, footN p = j) (slots : List (Nat × Pat)) (hR : Rel P E fc bl sv st a w) : ∃ sv', Rel P E fc bl sv' (normF E slots foot st) a w := by
  unfold normF
  exact normS_ok hE (fun j hj => by obtain ⟨p, hp, h⟩ := hfoot j hj; exact List.mem_map.2 ⟨p, hp, h⟩) slots st sv hR
theorem normF_get (slots : List (Nat × Pat)) (foot : List Pat) (d : Nat) : (normF E slots foot st).get d = st.get d := normS_get _ slots st d
end
end Go.Proofs.Ytemdppcnhlnicaa.Ev
