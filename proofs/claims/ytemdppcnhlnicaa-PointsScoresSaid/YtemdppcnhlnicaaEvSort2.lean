/- slices.SortFunc on a row of the call's own, known as a function. -/
import Derived.Test.YtemdppcnhlnicaaEvSort
set_option linter.unusedVariables false
set_option linter.unusedSimpArgs false
namespace Go.Proofs.Ytemdppcnhlnicaa.Ev
open Go Go.RowKit Go.Sort Go.Shelf
variable {G : Nat → Type}
section
variable {P : Program} {E : Env G}

theorem flatK_list {α : Type} [Inhabited α] (enc : α → List Value) (k : Nat) (hk : ∀ x, (enc x).length = k) (d : Array α) : (flatK enc k d).toList = d.toList.flatMap enc := by
  apply List.ext_getElem?
  intro t
  have hfl : (d.toList.flatMap enc).length = d.size * k := by
    rw [List.length_flatMap]
    simp [hk, List.map_const', Nat.mul_comm]
  by_cases ht : t < d.size * k
  · have hk0 : 0 < k := by rcases Nat.eq_zero_or_pos k with h | h; subst h; simp at ht; exact h
    have hi : t / k < d.size := (Nat.div_lt_iff_lt_mul hk0).2 ht
    have h1 : (flatK enc k d)[t]? = some ((enc d[t / k]!)[t % k]!) := by
      have := get_flatK enc k d t ht
      rw [getElem!_pos _ t (by simpa using ht)] at this
      rw [Array.getElem?_eq_getElem (by simpa using ht), this]
    rw [Array.getElem?_toList, h1]
    have h2 := flat_at enc k d.toList (fun x _ => hk x) (t / k) d[t / k] (by rw [Array.getElem?_toList, Array.getElem?_eq_getElem hi])
    have hm : t % k < k := Nat.mod_lt _ hk0
    have h3 : (d.toList.flatMap enc)[t]? = (enc d[t / k])[t % k]? := by
      rw [← h2, List.getElem?_take, if_pos hm, List.getElem?_drop]
      congr 1
      rw [Nat.mul_comm]; exact (Nat.div_add_mod t k).symm
    rw [h3, getElem!_pos d (t / k) hi]
    have hl : t % k < (enc d[t / k]).length := by rw [hk]; exact hm
    rw [List.getElem?_eq_getElem hl, getElem!_pos (enc d[t / k]) (t % k) hl]
  · rw [Array.getElem?_toList, Array.getElem?_eq_none (by simpa using ht), List.getElem?_eq_none (by rw [hfl]; omega)]

/-- A value that leads to no number, in a world where its memory is as it was. -/
theorem Rep.away {c : Cx G} (hE : EnvOk c.P c.E) {W : World} {c' : Cx G} (hc : Here c.P c.E W c') (hs : c.w.heap.size ≤ W.heap.size) (hm : ∀ b, b < c.w.heap.size → ¬ c.ow b → W.heap[b]? = c.w.heap[b]?) {a : AV G} {v : Value} (h : Rep c a v) (n : Nat) (hsh : a.shut n = true) : Rep c' a v := by
  obtain ⟨h1, h2, h3, h4⟩ := hc
  have r1 : Rep { c with lv := fun _ => False } a v := h.less (c' := { c with lv := fun _ => False }) hE rfl rfl rfl (fun _ h => h) n hsh
  exact Rep.keepS (c := { c with lv := fun _ => False }) (c' := c') ⟨h1, h2, by rw [h3]; exact hs, fun b hb ho => ⟨by rw [h3]; exact hm b hb ho, h4 b⟩, fun id (h : False) => h.elim⟩ r1

theorem sort_known {ρ : Ren} (hE : EnvOk P E) {g h e k : Nat} (L : SlLaysF0.n6 P ρ) (hg : ρ.f 6 = g) (aE : ∀ w, (isAgg (ρ.t 24)).run P w = .ok true w) (zE : ∀ w, (Go.sizeOf (ρ.t 24)).run P w = .ok k w) (hsz : sizeOf? P e = some k)
    {fn fnh : Func} (hfn : P.funcs[g]? = some fn) (hname : (fn.name == "runtime.NumGoroutine") = false) (hbody : fn.body.isNone = false) (hfh : P.funcs[h]? = some fnh) (hnameh : (fnh.name == "runtime.NumGoroutine") = false) (hbodyh : fnh.body.isNone = false)
    {F : G e × G e → Option Int} (hF : FnOk P E h (fun p : G e × G e => ([.agg (E.enc e p.1), .agg (E.enc e p.2)], [])) F (fun n : Int => ([.int .i64 n], []))) {cf : G e → G e → Int} {good : G e → Prop} (hcf : ∀ x y, good x → good y → F (x, y) = some (cf x y))
    (hO : SWO (ltOf cf)) (none_ok : ∀ p cap fv w, Calls P g #[.slice p 0 cap, fv] w fun e w' => e = .returned (.tuple #[]) ∧ w' = w)
    {S : List (G e) → Option (List (G e))} (hS : ∀ xs r, S xs = some r → ∀ ys, ys.Perm xs → (∀ (i j : Nat) (a b : G e), i < j → ys[i]? = some a → ys[j]? = some b → ltOf cf b a = false) → ys = r) (hbig : ∀ xs r, S xs = some r → xs.length < 4611686018427387904) (hgood : ∀ xs r, S xs = some r → ∀ x ∈ xs, good x) :
    FnOk P E g (fun xs : List (G e) => ([.osl 0, .fnv (.func h) [] []], [(0, .row e xs)])) S (fun r : List (G e) => ([], [(0, .row e r)])) := by
  intro xs r hv fc bl sv w vals hw han m hreps hlt
  obtain ⟨v1, vs1, rfl, q1, q2⟩ := hreps.cons_inv
  obtain ⟨v2, vs2, rfl, q3, q4⟩ := q2.cons_inv
  obtain rfl := q4.nil_inv
  have hv2 : v2 = .func (.func h) #[] #[] := by
    cases q3 with
    | fnv f cs ds us vs hl hr hl' hr' =>
      rw [List.eq_nil_of_length_eq_zero hl, List.eq_nil_of_length_eq_zero hl']
  subst hv2
  have hv1 : v1 = sv 0 := by
    cases q1 with
    | osl _ A n cap hl hs => exact hs.symm
  subst hv1
  obtain ⟨sz, vs, hsz', hown, hr, hl⟩ := m.blks 0 (.row e xs) rfl
  have hszk : sz = k := by
    have h1 : sizeOf? P e = some sz := hsz'
    rw [hsz] at h1; exact (Option.some.inj h1).symm
  subst hszk
  have hown' : w.ownsRow 0 e sz (sv 0) xs.length vs := hown
  refine .inl ⟨fn, hfn, hname, hbody, ?_⟩
  by_cases h0 : xs = []
  · subst h0
    obtain ⟨A, cap, hsv⟩ : ∃ A cap, sv 0 = .slice A 0 cap := by
      rcases hown'.2 with ⟨h1, _⟩ | ⟨b, cap, cur, h1, _⟩
      · exact ⟨none, 0, h1⟩
      · exact ⟨_, cap, h1⟩
    have hr0 : [] = r := hS [] r hv [] (List.Perm.refl _) (by intro i j a b _ h; simp at h)
    subst hr0
    have hcall := none_ok A cap (.func (.func h) #[] #[]) w
    rw [← hsv] at hcall
    refine Calls.mono hcall ?_
    rintro en w' ⟨rfl, rfl⟩
    exact ⟨_, rfl, bl, sv, m, .tup [] [] rfl (by simp), fun j _ _ => ⟨rfl, rfl⟩⟩
  · rcases hown'.2 with ⟨_, h2⟩ | ⟨blk, cap, cur, hsv, _, hh, r1, r2, r3, r4⟩
    · exact absurd (List.eq_nil_of_length_eq_zero h2) h0
    let c : Cx G := (hst [(0, .row e xs)]).cx P E fc bl sv w
    have hvl : vs.length = xs.length * sz := by rw [hr.1]; exact flat_len _ _ _ hl
    have hel : ∀ i (hi : i < xs.length), ((vs.drop (i * sz)).take sz).length = sz ∧ Reps c (E.enc e xs[i]) ((vs.drop (i * sz)).take sz) := by
      intro i hi
      have hmul : (i + 1) * sz ≤ xs.length * sz := Nat.mul_le_mul_right sz hi
      rw [Nat.succ_mul] at hmul
      refine ⟨by rw [List.length_take, List.length_drop]; omega, ?_⟩
      have := (hr.drop (i * sz)).take sz
      have h5 := flat_at (E.enc e) sz xs hl i xs[i] (List.getElem?_eq_getElem hi)
      have e1 : (c.E.enc e) = E.enc e := rfl
      rw [← h5]
      exact this
    let A := { p : G e × List Value // p.2.length = sz ∧ Reps c (E.enc e p.1) p.2 ∧ good p.1 }
    let d : Array A := Array.ofFn (fun i : Fin xs.length => ⟨(xs[i.1], (vs.drop (i.1 * sz)).take sz), (hel i.1 i.2).1, (hel i.1 i.2).2, hgood xs r hv _ (List.getElem_mem i.2)⟩)
    have hds : d.size = xs.length := by simp [d]
    have hpos : 0 < xs.length := List.length_pos_iff.2 h0
    haveI : Inhabited A := ⟨d[0]'(by rw [hds]; exact hpos)⟩
    let enc : A → List Value := fun x => x.1.2
    have henc : ∀ x, (enc x).length = sz := fun x => x.2.1
    have hflat : (flatK enc sz d).toList = vs := by
      rw [flatK_list enc sz henc]
      apply List.ext_getElem?
      intro t
      have hfl : (d.toList.flatMap enc).length = xs.length * sz := by rw [flat_len enc sz d.toList (fun x _ => henc x), Array.length_toList, hds]
      by_cases ht : t < xs.length * sz
      · have hk0 : 0 < sz := by rcases Nat.eq_zero_or_pos sz with h | h; rw [h] at ht; simp at ht; exact h
        have hi : t / sz < d.size := by rw [hds]; exact (Nat.div_lt_iff_lt_mul hk0).2 ht
        have h2 := flat_at enc sz d.toList (fun x _ => henc x) (t / sz) d[t / sz] (by rw [Array.getElem?_toList, Array.getElem?_eq_getElem hi])
        have hm : t % sz < sz := Nat.mod_lt _ hk0
        have h3 : (d.toList.flatMap enc)[t]? = (enc d[t / sz])[t % sz]? := by
          rw [← h2, List.getElem?_take, if_pos hm, List.getElem?_drop]
          congr 1
          rw [Nat.mul_comm]; exact (Nat.div_add_mod t sz).symm
        have h4 : enc d[t / sz] = (vs.drop (t / sz * sz)).take sz := by simp [enc, d]
        rw [h3, h4, List.getElem?_take, if_pos hm, List.getElem?_drop]
        congr 1
        rw [Nat.mul_comm]; exact Nat.div_add_mod t sz
      · rw [List.getElem?_eq_none (by rw [hfl]; omega), List.getElem?_eq_none (by rw [hvl]; omega)]
    have hblk : blk < w.heap.size := (Array.getElem?_eq_some_iff.1 hh).1
    have hH : HoldsK enc sz w blk 0 d := by
      intro j hj
      have hj2 : j < xs.length * sz := by rw [size_flatK, hds] at hj; exact hj
      have e1 : (flatK enc sz d)[j]? = cur[j]? := by
        rw [← Array.getElem?_toList, hflat, ← r4, List.getElem?_take, if_pos hj2, Array.getElem?_toList]
      constructor
      · rw [Nat.zero_add, cell_of_row w blk j _ e _ hh, ← e1, Array.getElem?_eq_getElem hj, getElem!_pos _ j hj]; rfl
      · simp [World.frozen?, hh]
    have hcmp : CmpLays P h #[] enc sz (fun x y : A => cf x.1.1 y.1.1) blk 0 d.size w := by
      intro mm os dk hdk x y
      have hown0 : owns (hst [(0, (Blk.row e xs : Blk G))]) bl sv 0 blk := by
        show (sv 0).ownBlock = some blk
        rw [hsv]; rfl
      have key : ∀ (z : A) (c' : Cx G), Here P E (sortWorldK enc sz w blk 0 mm dk os) c' → Rep c' (.agg (E.enc e z.1.1)) (.agg (enc z).toArray) := by
        intro z c' hc'
        refine .agg _ _ z.2.2.1.1 fun j hj => ?_
        refine Rep.away (c := c) hE hc' ?_ ?_ (z.2.2.1.2 j hj) 4 (List.all_eq_true.1 (hE.shut e z.1.1) _ (List.getElem_mem hj))
        · show w.heap.size ≤ _
          simp [sortWorldK, grow, putRowK, putRow, mapBlock, Sort.ahead]
        · intro b hb ho
          exact sortWorld_other enc sz w blk mm dk os hb fun hbe => ho (.inl ⟨0, hbe ▸ hown0⟩)
      exact cmp_calls hfh hnameh hbodyh hF (fun _ => rfl) (v := (x.1.1, y.1.1)) rfl (hcf _ _ x.2.2.2 y.2.2.2) (W := sortWorldK enc sz w blk 0 mm dk os) (vals := [.agg (enc x).toArray, .agg (enc y).toArray]) fun c' hc' => Reps.cons (key x c' hc') (Reps.cons (key y c' hc') (Reps.nil _))
    have hOA : SWO (ltOf (fun x y : A => cf x.1.1 y.1.1)) := ⟨fun x => hO.irrefl x.1.1, fun x y z => hO.trans x.1.1 y.1.1 z.1.1, fun x y z => hO.ntrans x.1.1 y.1.1 z.1.1⟩
    have h1c : ∀ x : A, ∀ v ∈ enc x, v.oneCell' = true := fun x => x.2.2.1.one (hE.one e x.1.1)
    have eg : ∀ args w, (callFunc h args).run P w = .ok (.enter h args) w := by
      intro args w
      have hp : (program).run P w = .ok P w := rfl
      simp only [callFunc, Sem.run_bind, hp, Result.andThen_ok, hfh, hnameh, hbodyh, Bool.false_eq_true, if_false, Sem.run_pure]
    have hcall := AnyQ.slices_SortFunc L sz aE zE enc henc h1c (fun x y : A => cf x.1.1 y.1.1) hOA h #[] blk 0 cap d w eg hcmp hH hblk (by rw [hds]; exact hbig xs r hv)
    rw [hg, hds, ← hsv] at hcall
    refine Calls.mono hcall ?_
    rintro en w' ⟨rfl, d', n, os, hperm, hsort, rfl⟩
    have hds' : d'.size = xs.length := by rw [hperm.1, hds]
    have hdm : d.toList.map (fun x : A => x.1.1) = xs := by
      apply List.ext_getElem?
      intro i
      rw [List.getElem?_map, Array.getElem?_toList]
      by_cases hi : i < xs.length
      · rw [Array.getElem?_eq_getElem (by rw [hds]; exact hi), List.getElem?_eq_getElem hi]
        simp [d]
      · rw [Array.getElem?_eq_none (by rw [hds]; omega), List.getElem?_eq_none (by omega)]; rfl
    have hp2 : d'.toList.Perm d.toList := by
      have := hperm.2.2
      rw [← hds] at this
      rw [show d'.extract 0 d.size = d' by rw [← hperm.1]; simp, show d.extract 0 d.size = d by simp] at this
      exact this
    have hys : d'.toList.map (fun x : A => x.1.1) = r := by
      refine hS xs r hv _ ?_ ?_
      · have := hp2.map (fun x : A => x.1.1)
        rw [hdm] at this
        exact this
      · intro i j a b hij ha hb
        rw [List.getElem?_map, Array.getElem?_toList, Option.map_eq_some_iff] at ha hb
        obtain ⟨a', ha, rfl⟩ := ha
        obtain ⟨b', hb, rfl⟩ := hb
        obtain ⟨hil, rfl⟩ := Array.getElem?_eq_some_iff.1 ha
        obtain ⟨hjl, rfl⟩ := Array.getElem?_eq_some_iff.1 hb
        have := hsort i j (Nat.zero_le _) hij (by omega)
        rw [getElem!_pos d' i hil, getElem!_pos d' j hjl] at this
        exact this
    subst hys
    have hlen : (d'.toList.map (fun x : A => x.1.1)).length = xs.length := by rw [List.length_map, Array.length_toList, hds']
    have hrow := sortWorld_row enc sz w blk n d' os hh
    have hown0 : owns (hst [(0, (Blk.row e xs : Blk G))]) bl sv 0 blk := by
      show (sv 0).ownBlock = some blk
      rw [hsv]; rfl
    have hsize : w.heap.size ≤ (sortWorldK enc sz w blk 0 n d' os).heap.size := by simp [sortWorldK, grow, putRowK, putRow, mapBlock, Sort.ahead]
    have hF2 : (flatK enc sz d').size ≤ cur.size := by rw [size_flatK, hds', r3]; exact Nat.mul_le_mul_right sz r1
    have only : ∀ (ys : List (G e)) j g, owns (hst [(0, (Blk.row e ys : Blk G))]) bl sv j g → j = 0 ∧ g = blk := by
      intro ys j g ho
      unfold owns at ho
      have hb : (hst [(0, (Blk.row e ys : Blk G))]).blk j = if 0 = j then some (.row e ys) else none := by
        show lk [(0, (Blk.row e ys : Blk G))] j = _
        rw [lk_cons]; rfl
      rw [hb] at ho
      by_cases h0 : 0 = j
      · subst h0
        rw [if_pos rfl] at ho
        have ho' : (sv 0).ownBlock = some g := ho
        rw [hsv] at ho'
        exact ⟨rfl, (Option.some.inj ho').symm⟩
      · rw [if_neg h0] at ho; exact ho.elim
    refine ⟨_, rfl, bl, sv, ⟨?_, fun j j' g h1 h2 => (only _ j g h1).1.trans (only _ j' g h2).1.symm, m.os, m.tape, m.output, Nat.le_trans m.grow hsize, ?_, ?_, fun j hj => absurd hj (han j), ?_⟩, .tup [] [] rfl (by simp), fun j _ _ => ⟨rfl, rfl⟩⟩
    · intro j b hb
      have hj : j = 0 := by
        by_cases h0 : 0 = j
        · exact h0.symm
        · have : lk [(0, (Blk.row e (d'.toList.map (fun x : A => x.1.1)) : Blk G))] j = some b := hb
          rw [lk_cons, if_neg h0] at this; cases this
      subst hj
      have hb' : (some (Blk.row e (d'.toList.map (fun x : A => x.1.1))) : Option (Blk G)) = some b := hb
      obtain rfl := Option.some.inj hb'
      refine ⟨sz, (flatK enc sz d').toList, hsz, ⟨by rw [Array.length_toList, size_flatK, hds', hlen], .inr ⟨blk, cap, putCells id 0 (flatK enc sz d') cur, ?_, Nat.zero_le _, hrow, ?_, r2, ?_, ?_⟩⟩, ?_, fun x _ => hE.len e x sz hsz⟩
      · show sv 0 = _
        rw [hsv, hlen]
      · rw [hlen]; exact r1
      · rw [putCells_size]; exact r3
      · have := putCells_take (flatK enc sz d') cur hF2
        rw [size_flatK, hds'] at this
        rw [hlen]; exact this
      · rw [flatK_list enc sz henc]
        have key2 : ∀ (x : A) (j : Nat) (hj : j < (E.enc e x.1.1).length), Rep ((hst [(0, (Blk.row e (d'.toList.map (fun x : A => x.1.1)) : Blk G))]).cx P E fc bl sv (sortWorldK enc sz w blk 0 n d' os)) (E.enc e x.1.1)[j] ((enc x).getD j undef) := by
          intro x j hj
          have q1 : Rep { c with lv := fun _ => False } (E.enc e x.1.1)[j] ((enc x).getD j undef) := Rep.less (c := c) (c' := { c with lv := fun _ => False }) hE rfl rfl rfl (fun _ h => h) (x.2.2.1.2 j hj) 4 (List.all_eq_true.1 (hE.shut e x.1.1) _ (List.getElem_mem hj))
          refine Rep.keepS (c := { c with lv := fun _ => False }) (c' := (hst [(0, (Blk.row e (d'.toList.map (fun x : A => x.1.1)) : Blk G))]).cx P E fc bl sv (sortWorldK enc sz w blk 0 n d' os)) ⟨rfl, rfl, hsize, fun b hb ho => ⟨sortWorld_other enc sz w blk n d' os hb fun hbe => ho (.inl ⟨0, hbe ▸ hown0⟩), ?_⟩, fun id (h : False) => h.elim⟩ q1
          rintro (⟨j', hj'⟩ | hn)
          · exact ho (.inl ⟨0, (only _ j' b hj').2 ▸ hown0⟩)
          · exact ho (.inr hn)
        have hall : ∀ l : List A, Reps ((hst [(0, (Blk.row e (d'.toList.map (fun x : A => x.1.1)) : Blk G))]).cx P E fc bl sv (sortWorldK enc sz w blk 0 n d' os)) ((l.map (fun x : A => x.1.1)).flatMap (E.enc e)) (l.flatMap enc) := by
          intro l
          induction l with
          | nil => exact Reps.nil _
          | cons x l ih =>
            simp only [List.map_cons, List.flatMap_cons]
            exact Reps.append ⟨x.2.2.1.1, fun j hj => key2 x j hj⟩ ih
        exact hall d'.toList
    · intro g hg hm
      have hne : g ≠ blk := by
        rintro rfl
        rcases m.own 0 g hown0 with h | h
        · exact hm h
        · omega
      rw [sortWorld_other enc sz w blk n d' os (Nat.lt_of_lt_of_le hg m.grow) hne]
      exact m.frame g hg hm
    · intro j g ho
      obtain ⟨rfl, rfl⟩ := only _ j g ho
      exact m.own 0 g hown0
    · exact Nat.le_trans m.drawn (by simp [sortWorldK, grow, putRowK, putRow, mapBlock, Sort.ahead])
end
end Go.Proofs.Ytemdppcnhlnicaa.Ev
