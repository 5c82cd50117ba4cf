/- Maps of whole numbers: made, looked at, written. -/
import Derived.Test.YtemdppcnhlnicaaEvJ
import Derived.MapKept
import Derived.RangeFuncRecord
set_option linter.unusedVariables false
set_option linter.unusedSimpArgs false
namespace Go.Proofs.Ytemdppcnhlnicaa.Ev
open Go Go.RowKit
variable {G : Nat → Type}

def posI (n : Int) : List Int → Option Nat
  | [] => none
  | a :: r => match decide (n = a) with | true => some 0 | false => (posI n r).map (· + 1)
theorem hasI_pos (n : Int) : ∀ l : List Int, hasI n l = (posI n l).isSome := by
  intro l
  induction l with
  | nil => rfl
  | cons a r ih => by_cases hd : n = a <;> simp [hasI, posI, hd, ih]
theorem keyS_inl {α : Type} {n : Int} : ∀ {l : List (Int × α)} {q : Nat × α}, keyS n l = .inl q → posI n (l.map (·.1)) = some q.1 ∧ l[q.1]? = some (n, q.2) := by
  intro l
  induction l with
  | nil => intro q h; cases h
  | cons p r ih =>
    intro q h
    simp only [keyS] at h
    split at h
    · rename_i hd
      have : n = p.1 := of_decide_eq_true hd
      simp only [Sum.inl.injEq] at h
      subst h
      exact ⟨by simp [posI, hd], by simp [this]⟩
    · rename_i hd
      split at h
      · rename_i q' hq
        simp only [Sum.inl.injEq] at h
        subst h
        obtain ⟨h1, h2⟩ := ih hq
        exact ⟨by simp only [List.map_cons, posI, hd, h1]; rfl, by simpa using h2⟩
      · cases h
theorem keyS_inr {α : Type} {n : Int} : ∀ {l : List (Int × α)} {u : Unit}, keyS n l = .inr u → posI n (l.map (·.1)) = none := by
  intro l
  induction l with
  | nil => intro u h; rfl
  | cons p r ih =>
    intro u h
    simp only [keyS] at h
    split at h
    · cases h
    · rename_i hd
      split at h
      · cases h
      · rename_i u' hq
        simp only [List.map_cons, posI, hd, ih hq]; rfl
theorem find_ok (n : Int) : ∀ (L : List MapEntry) (ks : List Int) (i : Nat), L.map (·.key) = ks.map (Value.int .i64 ·) →
    Instr.findNow (.int .i64) (.int .i64 n) L i = some ((posI n ks).map fun j => (i + j, (L.getD j default).val)) := by
  intro L
  induction L with
  | nil =>
    intro ks i h
    cases ks with
    | nil => rfl
    | cons k ks => cases h
  | cons e L ih =>
    intro ks i h
    cases ks with
    | nil => cases h
    | cons k ks =>
      simp only [List.map_cons, List.cons.injEq] at h
      obtain ⟨h1, h2⟩ := h
      simp only [Instr.findNow, h1, Instr.sameNow, if_true, posI]
      by_cases hd : n = k
      · subst hd; simp
      · have hb : (n == k) = false := by simpa using hd
        simp only [hb, hd, decide_false]
        rw [ih ks (i + 1) h2]
        cases posI n ks with
        | none => rfl
        | some j => simp [Nat.add_assoc, Nat.add_comm 1 j]
theorem posI_lt {n : Int} : ∀ {ks : List Int} {j : Nat}, posI n ks = some j → ks[j]? = some n := by
  intro ks
  induction ks with
  | nil => intro j h; cases h
  | cons k ks ih =>
    intro j h
    simp only [posI] at h
    split at h
    · rename_i hd
      have : n = k := of_decide_eq_true hd
      simp only [Option.some.injEq] at h
      subst h; simp [this]
    · obtain ⟨j', h1, rfl⟩ := Option.map_eq_some_iff.1 h
      simpa using ih h1
theorem keyI_inv {P : Program} {t : Nat} (h : keyI P t = true) : P.underlying t = some (.int .i64) := by
  unfold keyI intKind? at h
  cases hu : P.underlying t with
  | none => simp [hu] at h
  | some d =>
    cases d <;> simp [hu] at h ⊢
    rename_i k
    cases k <;> simp_all
section
variable {P : Program} {w : World}
theorem run_lookup {t kt el b clock : Nat} {n : Int} {es : Array MapEntry} {ks : List Int} {z : Value} (hu : P.underlying t = some (.map kt el)) (hk : keyI P kt = true) (hm : w.heap[b]? = some (.map es clock))
    (hkeys : es.toList.map (·.key) = ks.map (Value.int .i64 ·)) (hz : (zeroValue el).run P w = .ok z w) :
    (Instr.lookup t (.map (some b)) (.int .i64 n) false).run P w = .ok (match posI n ks with | some j => (es.toList.getD j default).val | none => z) w := by
  have hck := MapKept.run_checkKey (P := P) (w := w) (k := .int .i64 n) (keyI_inv hk) (by simp [MapKept.IsKey]) es.isEmpty 9999
  have hf := find_ok n es.toList ks 0 hkeys
  have hfk : (Instr.findKey kt (.int .i64 n) es.toList).run P w = .ok ((posI n ks).map fun j => (j, (es.toList.getD j default).val)) w := by
    unfold Instr.findKey
    simp only [Sem.run_bind, run_underlying (keyI_inv hk), Result.andThen_ok, hf]
    simp
  unfold Instr.lookup
  simp only [Sem.run_bind, run_underlying hu, Result.andThen_ok, MapKept.run_getObj_map hm, Sem.run_pure, hck, hfk]
  cases posI n ks with
  | none => simp [hz]
  | some j => simp
theorem run_lookup_hit {t kt el b clock : Nat} {n : Int} {es : Array MapEntry} {ks : List Int} {j : Nat} (hu : P.underlying t = some (.map kt el)) (hk : keyI P kt = true) (hm : w.heap[b]? = some (.map es clock))
    (hkeys : es.toList.map (·.key) = ks.map (Value.int .i64 ·)) (hp : posI n ks = some j) :
    (Instr.lookup t (.map (some b)) (.int .i64 n) false).run P w = .ok (es.toList.getD j default).val w := by
  have hck := MapKept.run_checkKey (P := P) (w := w) (k := .int .i64 n) (keyI_inv hk) (by simp [MapKept.IsKey]) es.isEmpty 9999
  have hf := find_ok n es.toList ks 0 hkeys
  have hfk : (Instr.findKey kt (.int .i64 n) es.toList).run P w = .ok (some (j, (es.toList.getD j default).val)) w := by
    unfold Instr.findKey
    simp only [Sem.run_bind, run_underlying (keyI_inv hk), Result.andThen_ok, hf, hp]
    simp
  unfold Instr.lookup
  simp only [Sem.run_bind, run_underlying hu, Result.andThen_ok, MapKept.run_getObj_map hm, Sem.run_pure, hck, hfk]
  simp
theorem run_mapUpdate_new {t kt el b clock : Nat} {n : Int} {es : Array MapEntry} {ks : List Int} {v : Value} (hu : P.underlying t = some (.map kt el)) (hk : keyI P kt = true) (hm : w.heap[b]? = some (.map es clock))
    (hkeys : es.toList.map (·.key) = ks.map (Value.int .i64 ·)) (hp : posI n ks = none) :
    (Instr.mapUpdate t (.map (some b)) (.int .i64 n) v).run P w = .ok () (w.putObj b (.map (es.push ⟨.int .i64 n, v, clock⟩) (clock + 1))) := by
  have hck := MapKept.run_checkKey (P := P) (w := w) (k := .int .i64 n) (keyI_inv hk) (by simp [MapKept.IsKey]) false 9999
  have hf := find_ok n es.toList ks 0 hkeys
  have hfk : (Instr.findKey kt (.int .i64 n) es.toList).run P w = .ok none w := by
    unfold Instr.findKey
    simp only [Sem.run_bind, run_underlying (keyI_inv hk), Result.andThen_ok, hf, hp]
    simp
  unfold Instr.mapUpdate
  simp only [Sem.run_bind, run_underlying hu, Result.andThen_ok, MapKept.run_getObj_map hm, hck, hfk, MapKept.run_setObj_map _ hm]
  rfl
theorem run_mapUpdate_old {t kt el b clock : Nat} {n : Int} {es : Array MapEntry} {ks : List Int} {v : Value} {j : Nat} (hu : P.underlying t = some (.map kt el)) (hk : keyI P kt = true) (hm : w.heap[b]? = some (.map es clock))
    (hkeys : es.toList.map (·.key) = ks.map (Value.int .i64 ·)) (hp : posI n ks = some j) :
    (Instr.mapUpdate t (.map (some b)) (.int .i64 n) v).run P w = .ok () (w.putObj b (.map (es.modify j fun e => { e with key := .int .i64 n, val := v }) clock)) := by
  have hck := MapKept.run_checkKey (P := P) (w := w) (k := .int .i64 n) (keyI_inv hk) (by simp [MapKept.IsKey]) false 9999
  have hf := find_ok n es.toList ks 0 hkeys
  have hfk : (Instr.findKey kt (.int .i64 n) es.toList).run P w = .ok (some (j, (es.toList.getD j default).val)) w := by
    unfold Instr.findKey
    simp only [Sem.run_bind, run_underlying (keyI_inv hk), Result.andThen_ok, hf, hp]
    simp
  have hj := posI_lt hp
  have hjk : (es[j]?).map (·.key) = some (.int .i64 n) := by
    have h1 : (es.toList.map (·.key))[j]? = some (.int .i64 n) := by rw [hkeys, List.getElem?_map, hj]; rfl
    rw [List.getElem?_map] at h1
    simpa using h1
  have hst : (Instr.keyThatStays (.int .i64 n) (.int .i64 n)).run P w = .ok (.int .i64 n) w := by
    unfold Instr.keyThatStays
    simp [Instr.sameBits]
  unfold Instr.mapUpdate
  simp only [Sem.run_bind, run_underlying hu, Result.andThen_ok, MapKept.run_getObj_map hm, hck, hfk, hjk, Option.getD_some, hst, MapKept.run_setObj_map _ hm]
  rfl
theorem zeroNil_run {t : Nat} (h : zeroNil P t = true) : (zeroValue t).run P w = .ok (.pointer none) w := by
  unfold zeroNil at h
  split at h
  · rename_i i hi
    split at h
    · rename_i hz
      simp [zeroValue, typeInfo, hi, hz]
    · cases h
  · cases h
theorem zeroNo_run {t : Nat} (h : zeroNo P t = true) : (zeroValue t).run P w = .ok (.bool false) w := by
  unfold zeroNo at h
  split at h
  · rename_i i hi
    split at h
    · rename_i hz
      simp [zeroValue, typeInfo, hi, hz]
    · cases h
  · cases h
theorem keys_of {es : Array MapEntry} {ks : List Int} (hz : es.size = ks.length) (h : ∀ (j : Nat) (k : Int), ks[j]? = some k → ∃ en, es[j]? = some en ∧ en.key = .int .i64 k) : es.toList.map (·.key) = ks.map (Value.int .i64 ·) := by
  refine List.ext_getElem? fun j => ?_
  rw [List.getElem?_map, List.getElem?_map]
  by_cases hj : j < ks.length
  · obtain ⟨en, h1, h2⟩ := h j ks[j] (List.getElem?_eq_getElem hj)
    rw [List.getElem?_eq_getElem hj, Array.getElem?_toList, h1]
    simp [h2]
  · rw [List.getElem?_eq_none (show es.toList.length ≤ j by rw [Array.length_toList, hz]; omega), List.getElem?_eq_none (show ks.length ≤ j by omega)]
    rfl
theorem getD_of {es : Array MapEntry} {j : Nat} {en : MapEntry} (h : es[j]? = some en) : es.toList.getD j default = en := by
  rw [List.getD_eq_getElem?_getD, Array.getElem?_toList, h]; rfl
end
section
variable {P : Program} {E : Env G} {fc : FC} {bl : Nat → Nat} {sv : Nat → Value} {st : St G} {a : Act} {w : World}

theorem lk_nil {β : Type} (x : Nat) : lk ([] : List (Nat × β)) x = none := rfl
theorem lk_cons' {β : Type} (a : Nat) (b : β) (r : List (Nat × β)) (x : Nat) : lk ((a, b) :: r) x = if x = a then some b else lk r x := by
  rw [lk_cons]
  by_cases h : a = x
  · subst h; rfl
  · rw [if_neg h, if_neg (fun e => h e.symm)]
theorem out_makeMap (m : MRel P E fc bl sv st w) {base : Nat} (hf : st.blk base = none) {b : Blk G} (hb' : b = .mset [] ∨ ∃ e, b = .mrow e [] none) :
    Out P E fc bl sv st w ⟨.mapv base, [(base, b)]⟩ (.map (some w.heap.size)) (w.alloc (.map #[] 0)) := by
  have hb : ∀ id, (st.upd [(base, b)]).blk id = if id = base then some b else st.blk id := by
    intro id; rw [St.upd_blk, lk_one]; split <;> simp
  have hown : ∀ id g, id = base → owns (st.upd [(base, b)]) (at_ bl base w.heap.size) (at_ sv base (.tuple #[])) id g → g = w.heap.size := by
    intro id g hid ho; subst hid
    unfold owns at ho; rw [hb, if_pos rfl] at ho
    rcases hb' with rfl | ⟨e, rfl⟩
    · simp only [at_same] at ho; exact ho.symm
    · simp only [at_same] at ho
      rcases ho with ho | ⟨k, hk, _⟩
      · exact ho.symm
      · simp at hk
  have := m.change (U := (· = base)) (bl' := at_ bl base w.heap.size) (sv' := at_ sv base (.tuple #[])) (st' := st.upd [(base, b)]) (w' := w.alloc (.map #[] 0)) rfl rfl rfl (by simp)
    (fun g hg _ => Below.heap_alloc w _ g hg)
    (fun id hid => by rw [hb, if_neg hid])
    (fun id hid => by
      have hne : id ≠ base := fun e => by subst e; simp [hf] at hid
      exact ⟨by rw [hb, if_neg hne]; exact hid, at_other _ _ hne, at_other _ _ hne⟩)
    (fun id g hid ho => .inr (Nat.le_of_eq (hown id g hid ho).symm))
    (fun id id' g h1 h2 _ _ => h1.trans h2.symm)
    (fun k id b1 hid hbk => by
      rw [hb, if_pos hid] at hbk
      obtain rfl := Option.some.inj hbk
      have hh : (w.alloc (.map #[] 0)).heap[at_ bl base w.heap.size id]? = some (.map #[] 0) := by
        rw [hid, at_same]; exact heap_alloc_new w _
      rcases hb' with rfl | ⟨e, rfl⟩
      · exact ⟨#[], 0, hh, rfl, fun j k h => by simp at h⟩
      · refine ⟨#[], 0, hh, rfl, fun j k h => by simp at h, fun i p s h => (by cases h), fun k k' g h => (by simp at h), ?_, ?_⟩
        · rintro ⟨k, hk, _⟩; simp at hk
        · exact ⟨#[], by show at_ sv base _ id = _; rw [hid, at_same]⟩)
  obtain ⟨m', k⟩ := this
  refine ⟨_, _, m', k, ?_⟩
  have := Rep.mapv (c := (st.upd [(base, b)]).cx P E fc (at_ bl base w.heap.size) (at_ sv base (.tuple #[])) (w.alloc (.map #[] 0))) base (by show (St.blk _ base).isSome = true; rw [hb, if_pos rfl]; rfl)
  have e : ((st.upd [(base, b)]).cx P E fc (at_ bl base w.heap.size) (at_ sv base (.tuple #[])) (w.alloc (.map #[] 0))).bl base = w.heap.size := at_same _ _ _
  rw [e] at this
  exact this

theorem makeMap_ok (m : MRel P E fc bl sv st w) {t base : Nat} (hf : st.blk base = none) {e : Eff G} {l : List Nat} (hq : (makeMapQ P t base : Q G (Eff G)).trace st.blk = some (e, l)) :
    ∃ v w', (Instr.makeMap t none).run P w = .ok v w' ∧ Out P E fc bl sv st w e v w' := by
  have hrun : (Instr.makeMap t none).run P w = .ok (.map (some w.heap.size)) (w.alloc (.map #[] 0)) := by
    simp only [Instr.makeMap, Sem.run_bind, newObj, Sem.run_pure]; rfl
  unfold makeMapQ at hq
  split at hq
  · split at hq
    · simp only [Q.trace, Option.some.injEq, Prod.mk.injEq] at hq
      obtain ⟨rfl, _⟩ := hq
      exact ⟨_, _, hrun, out_makeMap m hf (.inl rfl)⟩
    · simp only [Q.trace, Option.some.injEq, Prod.mk.injEq] at hq
      obtain ⟨rfl, _⟩ := hq
      exact ⟨_, _, hrun, out_makeMap m hf (.inr ⟨_, rfl⟩)⟩
    · cases hq
  · cases hq

/-- An entry is looked at through blocks of its own. -/
theorem out_open (hE : EnvOk P E) (m : MRel P E fc bl sv st w) {id e base : Nat} {xs : List (Int × G e)} (hid : st.blk id = some (.mrow e xs none)) (hf : st.blk base = none) (hf1 : st.blk (base + 1) = none)
    {i : Nat} {n : Int} {x : G e} (hx : xs[i]? = some (n, x)) {q : RoS G} (hq : splitRo (E.enc e x) = some q) {es : Array MapEntry} {clock : Nat} (hm : w.heap[bl id]? = some (.map es clock)) :
    ∃ en, es[i]? = some en ∧ Out P E fc bl sv st w ⟨.ptr base 0, [(id, .mrow e xs (some (i, base, base + 1))), (base, .fix e (q.f ++ [.osl (base + 1)])), (base + 1, .row q.e q.ts)]⟩ en.val w := by
  obtain ⟨es', clock', h1, h2, h3, h4, h5, h6, h7⟩ := m.blks id _ hid
  have h1' : w.heap[bl id]? = some (.map es' clock') := h1
  rw [hm] at h1'
  obtain ⟨rfl, rfl⟩ : es = es' ∧ clock = clock' := by simpa using h1'
  obtain ⟨en, e1, e2, e3⟩ := h3 i (n, x) hx
  have hil : i < xs.length := (List.getElem?_eq_some_iff.1 hx).1
  obtain ⟨g, sl, q', vs, sz, us, f1, f2, f3, f4, f5, f6, f7, f8, f9, f10⟩ := e3 (by simp [holeAt])
  have f4' : splitRo (E.enc e x) = some q' := f4
  rw [hq] at f4'
  obtain rfl := Option.some.inj f4'
  have f1' : famV (sv id) (2 * i) = some (.pointer (some ⟨g, 0, none⟩)) := f1
  have f2' : famV (sv id) (2 * i + 1) = some sl := f2
  have hD : famD (sv id) xs.length none := h5
  have hN : ¬ famO (sv id) xs.length none (bl id) := h6
  refine ⟨en, e1, ?_⟩
  have hib : id ≠ base := fun h => by subst h; rw [hid] at hf; cases hf
  have hib1 : id ≠ base + 1 := fun h => by subst h; rw [hid] at hf1; cases hf1
  have hb : ∀ j, (st.upd [(id, .mrow e xs (some (i, base, base + 1))), (base, .fix e (q.f ++ [.osl (base + 1)])), (base + 1, .row q.e q.ts)]).blk j =
      if j = id then some (.mrow e xs (some (i, base, base + 1))) else if j = base then some (.fix e (q.f ++ [.osl (base + 1)])) else if j = base + 1 then some (.row q.e q.ts) else st.blk j := by
    intro j
    rw [St.upd_blk]
    simp only [lk_cons', lk_nil]
    by_cases a1 : j = id
    · simp only [if_pos a1]; rfl
    · simp only [if_neg a1]
      by_cases a2 : j = base
      · simp only [if_pos a2]; rfl
      · simp only [if_neg a2]
        by_cases a3 : j = base + 1
        · simp only [if_pos a3]; rfl
        · simp only [if_neg a3]; rfl
  generalize hst' : st.upd [(id, .mrow e xs (some (i, base, base + 1))), (base, .fix e (q.f ++ [.osl (base + 1)])), (base + 1, .row q.e q.ts)] = st' at hb
  have hsi : sl = .slice none 0 0 ∨ ∃ g2 cap, sl = .slice (some ⟨g2, 0, none⟩) q.ts.length cap := by
    rcases f8.2 with ⟨a1, _⟩ | ⟨g2, cap, cur, a1, _⟩
    · exact .inl a1
    · exact .inr ⟨g2, cap, a1⟩
  have hsb : ∀ gg, sl.ownBlock = some gg → famN (sv id) (2 * i + 1) = some gg := by
    intro gg hg
    simp only [famN, f2', Option.bind_some]
    rcases hsi with rfl | ⟨g2, cap, rfl⟩ <;> simpa [blkOf] using hg
  have hsg : famN (sv id) (2 * i) = some g := by simp [famN, f1', blkOf]
  have hsv : (at_ sv (base + 1) sl) id = sv id := at_other _ _ hib1
  have hbl : (at_ bl base g) id = bl id := at_other _ _ hib
  have o1 : ∀ gg, owns st' (at_ bl base g) (at_ sv (base + 1) sl) id gg → bl id = gg ∨ famO (sv id) xs.length (some i) gg := by
    intro gg ho
    unfold owns at ho
    rw [hb, if_pos rfl] at ho
    simp only [hsv, hbl] at ho
    exact ho
  have o2 : ∀ gg, owns st' (at_ bl base g) (at_ sv (base + 1) sl) base gg → g = gg := by
    intro gg ho
    unfold owns at ho
    rw [hb, if_neg (fun h => hib h.symm), if_pos rfl] at ho
    simp only [at_same] at ho
    exact ho
  have o3 : ∀ gg, owns st' (at_ bl base g) (at_ sv (base + 1) sl) (base + 1) gg → sl.ownBlock = some gg := by
    intro gg ho
    unfold owns at ho
    rw [hb, if_neg (fun h => hib1 h.symm), if_neg (by omega), if_pos rfl] at ho
    simp only [at_same] at ho
    exact ho
  have own0 : ∀ gg, (bl id = gg ∨ famO (sv id) xs.length none gg) → owns st bl sv id gg := by
    intro gg h
    unfold owns
    rw [hid]
    exact h
  have fam : ∀ k gg, k / 2 = i → famN (sv id) k = some gg → famO (sv id) xs.length none gg := fun k gg hk hn => ⟨k, by omega, by simp, hn⟩
  have apart : ∀ k gg, k / 2 = i → famN (sv id) k = some gg → ¬ (bl id = gg ∨ famO (sv id) xs.length (some i) gg) := by
    intro k gg hk hn
    rintro (h | ⟨k', a1, a2, a3⟩)
    · exact hN (h ▸ fam k gg hk hn)
    · have := hD k k' gg (by omega) a1 (by simp) (by simp) hn a3
      subst this
      exact a2 (by rw [hk])
  have cases3 : ∀ j, (j = id ∨ j = base ∨ j = base + 1) → ∀ gg, owns st' (at_ bl base g) (at_ sv (base + 1) sl) j gg →
      (j = id ∧ (bl id = gg ∨ famO (sv id) xs.length (some i) gg)) ∨ (j = base ∧ famN (sv id) (2 * i) = some gg) ∨ (j = base + 1 ∧ famN (sv id) (2 * i + 1) = some gg) := by
    rintro j (rfl | rfl | rfl) gg ho
    · exact .inl ⟨rfl, o1 gg ho⟩
    · exact .inr (.inl ⟨rfl, by rw [hsg, o2 gg ho]⟩)
    · exact .inr (.inr ⟨rfl, hsb gg (o3 gg ho)⟩)
  have c := m.change (U := fun j => j = id ∨ j = base ∨ j = base + 1) (bl' := at_ bl base g) (sv' := at_ sv (base + 1) sl) (st' := st') (w' := w) rfl rfl rfl (Nat.le_refl _)
    (fun _ _ _ => rfl)
    (fun j hj => by
      rw [hb, if_neg (fun h => hj (.inl h)), if_neg (fun h => hj (.inr (.inl h))), if_neg (fun h => hj (.inr (.inr h)))])
    (fun j hj => by
      have n1 : j ≠ base := fun h => by subst h; rw [hf] at hj; cases hj
      have n2 : j ≠ base + 1 := fun h => by subst h; rw [hf1] at hj; cases hj
      refine ⟨?_, at_other _ _ n1, at_other _ _ n2⟩
      rw [hb]
      by_cases a1 : j = id
      · simp [a1]
      · rw [if_neg a1, if_neg n1, if_neg n2]; exact hj)
    (fun j gg hj ho => by
      refine .inl ⟨id, .inl rfl, own0 gg ?_⟩
      rcases cases3 j hj gg ho with ⟨_, h | ⟨k, a1, _, a3⟩⟩ | ⟨_, h⟩ | ⟨_, h⟩
      · exact .inl h
      · exact .inr ⟨k, a1, by simp, a3⟩
      · exact .inr (fam _ _ (by omega) h)
      · exact .inr (fam _ _ (by omega) h))
    (fun j j' gg hj hj' ho ho' => by
      rcases cases3 j hj gg ho with ⟨rfl, h⟩ | ⟨rfl, h⟩ | ⟨rfl, h⟩ <;> rcases cases3 j' hj' gg ho' with ⟨rfl, h'⟩ | ⟨rfl, h'⟩ | ⟨rfl, h'⟩
      · rfl
      · exact absurd h (apart _ _ (by omega) h')
      · exact absurd h (apart _ _ (by omega) h')
      · exact absurd h' (apart _ _ (by omega) h)
      · rfl
      · have := hD _ _ gg (by omega) (by omega) (by simp) (by simp) h h'
        omega
      · exact absurd h' (apart _ _ (by omega) h)
      · have := hD _ _ gg (by omega) (by omega) (by simp) (by simp) h h'
        omega
      · rfl)
    (fun k j b hj hbk => by
      have lvb : ((st'.cx P E fc (at_ bl base g) (at_ sv (base + 1) sl) w)).lv base := by
        show (st'.blk base).isSome = true
        rw [hb, if_neg (fun h => hib h.symm), if_pos rfl]; rfl
      have lvs : ((st'.cx P E fc (at_ bl base g) (at_ sv (base + 1) sl) w)).lv (base + 1) := by
        show (st'.blk (base + 1)).isSome = true
        rw [hb, if_neg (fun h => hib1 h.symm), if_neg (by omega), if_pos rfl]; rfl
      rw [hb] at hbk
      by_cases a1 : j = id
      · subst a1
        rw [if_pos rfl] at hbk
        obtain rfl := Option.some.inj hbk
        refine ⟨es, clock, ?_, h2, fun jj y hjj => ?_, fun i' p s hh => ?_, ?_, ?_, ?_⟩
        · show w.heap[at_ bl base g j]? = _
          rw [hbl]; exact hm
        · obtain ⟨en', g1, g2, g3⟩ := h3 jj y hjj
          refine ⟨en', g1, g2, fun hne => ?_⟩
          obtain ⟨g', sl', q2, vs', sz', us', r1, r2, r3, r4, r5, r6, r7, r8, r9, r10⟩ := g3 (by simp [holeAt])
          refine ⟨g', sl', q2, vs', sz', us', ?_, ?_, r3, r4, r5, r6.keep k, r7, r8, r9.keep k, r10⟩
          · show famV (at_ sv (base + 1) sl j) _ = _
            rw [hsv]; exact r1
          · show famV (at_ sv (base + 1) sl j) _ = _
            rw [hsv]; exact r2
        · simp only [Option.some.injEq, Prod.mk.injEq] at hh
          obtain ⟨rfl, rfl, rfl⟩ := hh
          refine ⟨hil, lvb, lvs, en, e1, ?_⟩
          show en.val = .pointer (some ⟨at_ bl base g base, 0, none⟩)
          rw [at_same]; exact f3
        · show famD (at_ sv (base + 1) sl j) _ _
          rw [hsv]
          exact fun k k' gg b1 b2 b3 b4 b5 b6 => hD k k' gg b1 b2 (by simp) (by simp) b5 b6
        · show ¬ famO (at_ sv (base + 1) sl j) _ _ (at_ bl base g j)
          rw [hsv, hbl]
          rintro ⟨k, b1, _, b3⟩
          exact hN ⟨k, b1, by simp, b3⟩
        · show ∃ cs, at_ sv (base + 1) sl j = _
          rw [hsv]; exact h7
      · rw [if_neg a1] at hbk
        by_cases a2 : j = base
        · subst a2
          rw [if_pos rfl] at hbk
          obtain rfl := Option.some.inj hbk
          refine ⟨vs ++ [sl], ?_, (f6.keep k).append (Reps.cons ?_ (Reps.nil _))⟩
          · show w.heap[at_ bl j g j]? = _
            rw [at_same]; exact f5
          · have key : ∀ v, v = sl → (v = .slice none 0 0 ∨ ∃ g2 cap, v = .slice (some ⟨g2, 0, none⟩) q.ts.length cap) → Rep (st'.cx P E fc (at_ bl j g) (at_ sv (j + 1) sl) w) (.osl (j + 1)) v := by
              rintro v hv (rfl | ⟨g2, cap, rfl⟩)
              · exact .osl (j + 1) _ _ _ lvs (by show at_ sv (j + 1) sl (j + 1) = _; rw [at_same]; exact hv.symm)
              · exact .osl (j + 1) _ _ _ lvs (by show at_ sv (j + 1) sl (j + 1) = _; rw [at_same]; exact hv.symm)
            exact key sl rfl hsi
        · have a3 : j = base + 1 := by rcases hj with h | h | h <;> first | exact absurd h a1 | exact absurd h a2 | exact h
          subst a3
          rw [if_neg a2, if_pos rfl] at hbk
          obtain rfl := Option.some.inj hbk
          refine ⟨sz, us, f7, ?_, f9.keep k, f10⟩
          show w.ownsRow 0 q.e sz (at_ sv (base + 1) sl (base + 1)) q.ts.length us
          rw [at_same]; exact f8)
  obtain ⟨m', k⟩ := c
  refine ⟨at_ bl base g, at_ sv (base + 1) sl, ?_, ?_, ?_⟩
  · rw [hst']; exact m'
  · rw [hst']; exact k
  · rw [hst']
    have lvb : ((st'.cx P E fc (at_ bl base g) (at_ sv (base + 1) sl) w)).lv base := by
      show (st'.blk base).isSome = true
      rw [hb, if_neg (fun h => hib h.symm), if_pos rfl]; rfl
    have := Rep.ptr (c := st'.cx P E fc (at_ bl base g) (at_ sv (base + 1) sl) w) base 0 lvb
    have e4 : (st'.cx P E fc (at_ bl base g) (at_ sv (base + 1) sl) w).bl base = g := at_same _ _ _
    rw [e4] at this
    rw [f3]; exact this

theorem Rep.mapv_inv {c : Cx G} {id : Nat} {v : Value} (h : Rep c (.mapv id) v) : c.lv id ∧ v = .map (some (c.bl id)) := by cases h with | mapv id h => exact ⟨h, rfl⟩
theorem mrow_keys {c : Cx G} {id e : Nat} {xs : List (Int × G e)} {h : Option (Nat × Nat × Nat)} (hb : BlkOk c id (.mrow e xs h)) : ∃ es clock, c.w.heap[c.bl id]? = some (.map es clock) ∧ es.toList.map (·.key) = (xs.map (·.1)).map (Value.int .i64 ·) := by
  obtain ⟨es, clock, h1, h2, h3, _⟩ := hb
  refine ⟨es, clock, h1, keys_of (by simpa using h2) fun j k hk => ?_⟩
  rw [List.getElem?_map, Option.map_eq_some_iff] at hk
  obtain ⟨y, hy, rfl⟩ := hk
  obtain ⟨en, g1, g2, _⟩ := h3 j y hy
  exact ⟨en, g1, g2⟩
theorem keyO_inv {α : Type} {n : Int} {l : List (Int × α)} {q : Nat × α} (h : keyO n l = some q) : keyS n l = .inl q := by
  unfold keyO at h
  split at h
  · rename_i q' hq; rw [hq, Option.some.inj h]
  · cases h

theorem lookup_ok (hE : EnvOk P E) (hR : Rel P E fc bl sv st a w) {t base : Nat} (hf : st.blk base = none) (hf1 : st.blk (base + 1) = none) {x k : AV G} {xv kv : Value} (hx : Rep (st.cx P E fc bl sv w) x xv) (hk : Rep (st.cx P E fc bl sv w) k kv)
    {ok : Bool} {e : Eff G} {l : List Nat} (hq : (lookupQ P E t x k ok base).trace st.blk = some (e, l)) :
    ∃ v, (Instr.lookup t xv kv ok).run P w = .ok v w ∧ Out P E fc bl sv st w e v w := by
  unfold lookupQ at hq
  split at hq
  · rename_i kt el n hu
    obtain rfl := hk.int_inv
    split at hq
    · cases hq
    · rename_i hki
      split at hq
      · rename_i id
        obtain ⟨hlv, rfl⟩ := hx.mapv_inv
        have hq1 := ask_inv hq
        clear hq
        obtain ⟨l1, hq, -⟩ := hq1
        split at hq
        · rename_i ks hid
          split at hq
          · rename_i hz
            obtain rfl := pureE_inv hq
            obtain ⟨es, clock, h1, h2, h3⟩ := hR.m.blks id _ hid
            have hkeys := keys_of h2 fun j k hk => by obtain ⟨en, g1, g2, _⟩ := h3 j k hk; exact ⟨en, g1, g2⟩
            refine ⟨_, run_lookup hu hki h1 hkeys (zeroNo_run hz), Out.pure hR.m ?_⟩
            rw [hasI_pos]
            cases hp : posI n ks with
            | none => exact .bool false
            | some j =>
              obtain ⟨en, g1, _, g3⟩ := h3 j n (posI_lt hp)
              simp only [getD_of g1, g3]
              exact .bool true
          · cases hq
        · rename_i e' xs hid
          split at hq
          · rename_i hz
            obtain ⟨es, clock, h1, hkeys⟩ := mrow_keys (hR.m.blks id _ hid)
            have h1' : w.heap[bl id]? = some (.map es clock) := h1
            have hrun := run_lookup (n := n) hu hki h1' hkeys (zeroNil_run hz)
            rcases hp : keyS n xs with p | u
            · rw [hp] at hq
              replace hq : (openQ E id e' xs base p).trace st.blk = some (e, l1) := hq
              obtain ⟨p1, p2⟩ := keyS_inl hp
              unfold openQ at hq
              split at hq
              · rename_i q hs
                simp only [Q.trace, Option.some.injEq, Prod.mk.injEq] at hq
                obtain ⟨rfl, _⟩ := hq
                obtain ⟨en, e1, ho⟩ := out_open hE hR.m hid hf hf1 p2 hs h1
                refine ⟨en.val, ?_, ho⟩
                refine hrun.trans ?_
                rw [p1]
                simp only [getD_of e1]
              · cases hq
            · rw [hp] at hq
              replace hq : (pureE .nilptr : Q G (Eff G)).trace st.blk = some (e, l1) := hq
              obtain rfl := pureE_inv hq
              refine ⟨.pointer none, ?_, Out.pure hR.m .nilptr⟩
              refine hrun.trans ?_
              rw [keyS_inr hp]
          · cases hq
        · cases hq
      · rename_i e' xs
        obtain ⟨p, hp, hq⟩ := opt_inv hq
        obtain rfl := pureE_inv hq
        obtain ⟨p1, p2⟩ := keyS_inl (keyO_inv hp)
        cases hx with
        | romap _ _ b clock es hb ho hm hz hk vs hv hr =>
          have hkeys : es.toList.map (·.key) = (xs.map (·.1)).map (Value.int .i64 ·) := keys_of (by simpa using hz) fun j k hjk => by
            rw [List.getElem?_map, Option.map_eq_some_iff] at hjk
            obtain ⟨y, hy, rfl⟩ := hjk
            obtain ⟨hjl, rfl⟩ := List.getElem?_eq_some_iff.1 hy
            have := hk j hjl
            obtain ⟨en, g1, g2⟩ := Option.map_eq_some_iff.1 this
            exact ⟨en, g1, g2⟩
          obtain ⟨hjl, hxe⟩ := List.getElem?_eq_some_iff.1 p2
          obtain ⟨en, g1, g2⟩ := Option.map_eq_some_iff.1 (hv p.1 hjl)
          refine ⟨en.val, ?_, Out.pure hR.m ?_⟩
          · have hm' : w.heap[b]? = some (.map es clock) := hm
            refine (run_lookup_hit hu hki hm' hkeys p1).trans ?_
            rw [getD_of g1]
          · have := hr p.1 hjl
            rw [hxe] at this
            rw [g2]; exact this
      · cases hq
  · cases hq

theorem addI_none {n : Int} {ks : List Int} (h : posI n ks = none) : addI n ks = ks ++ [n] := by unfold addI; rw [hasI_pos, h]; rfl
theorem addI_some {n : Int} {ks : List Int} {j : Nat} (h : posI n ks = some j) : addI n ks = ks := by unfold addI; rw [hasI_pos, h]; rfl
/-- A map's own block is written. -/
theorem out_setMap (m : MRel P E fc bl sv st w) {id : Nat} {b b' : Blk G} (hid : st.blk id = some b) (hm : bl id < w.heap.size) (ho : owns st bl sv id (bl id)) (hs : ∀ g, owns (st.upd [(id, b')]) bl sv id g → owns st bl sv id g) {o : Obj}
    (hok : Keeps (st.cx P E fc bl sv w) ((st.upd [(id, b')]).cx P E fc bl sv (w.putObj (bl id) o)) → (w.putObj (bl id) o).heap[bl id]? = some o → BlkOk ((st.upd [(id, b')]).cx P E fc bl sv (w.putObj (bl id) o)) id b') :
    Out P E fc bl sv st w ⟨.any, [(id, b')]⟩ undef (w.putObj (bl id) o) := by
  have hb : ∀ i, (st.upd [(id, b')]).blk i = if i = id then some b' else st.blk i := by
    intro i; rw [St.upd_blk, lk_one]; split <;> simp
  obtain ⟨m', k⟩ := m.change (U := (· = id)) (bl' := bl) (sv' := sv) (st' := st.upd [(id, b')]) (w' := w.putObj (bl id) o) rfl rfl rfl (by simp)
    (fun g hg hu => World.putObj_heap_other fun e => hu id rfl (e ▸ ho))
    (fun i hi => by rw [hb, if_neg hi])
    (fun i hi => ⟨by rw [hb]; by_cases e : i = id <;> simp [e, hi], rfl, rfl⟩)
    (fun i g hi h => by subst hi; exact .inl ⟨i, rfl, hs g h⟩)
    (fun i i' g h1 h2 _ _ => h1.trans h2.symm)
    (fun k i b1 hi hbk => by
      subst hi
      rw [hb, if_pos rfl] at hbk
      obtain rfl := Option.some.inj hbk
      exact hok k (World.putObj_heap_same hm))
  exact ⟨_, _, m', k, .any _⟩

theorem mapUpdate_ok (hE : EnvOk P E) (hR : Rel P E fc bl sv st a w) {t : Nat} {x k v : AV G} {xv kv vv : Value} (hx : Rep (st.cx P E fc bl sv w) x xv) (hk : Rep (st.cx P E fc bl sv w) k kv) (hv : Rep (st.cx P E fc bl sv w) v vv)
    {e : Eff G} {l : List Nat} (hq : (mapUpdateQ P E t x k v).trace st.blk = some (e, l)) :
    ∃ w', (Instr.mapUpdate t xv kv vv).run P w = .ok () w' ∧ Out P E fc bl sv st w e undef w' := by
  unfold mapUpdateQ at hq
  split at hq
  · rename_i kt el n hu
    obtain rfl := hk.int_inv
    split at hq
    · rename_i id hki
      obtain ⟨hlv, rfl⟩ := hx.mapv_inv
      have hq1 := ask_inv hq
      clear hq
      obtain ⟨l1, hq, -⟩ := hq1
      split at hq
      · rename_i ks hid
        simp only [Q.trace, Option.some.injEq, Prod.mk.injEq] at hq
        obtain ⟨rfl, _⟩ := hq
        obtain rfl := hv.bool_inv
        obtain ⟨es, clock, h1, h2, h3⟩ := hR.m.blks id _ hid
        have h1' : w.heap[bl id]? = some (.map es clock) := h1
        have hkeys := keys_of h2 fun j k hk => by obtain ⟨en, g1, g2, _⟩ := h3 j k hk; exact ⟨en, g1, g2⟩
        have ho : owns st bl sv id (bl id) := by unfold owns; rw [hid]
        have hs : ∀ g, owns (st.upd [(id, .mset (addI n ks))]) bl sv id g → owns st bl sv id g := by
          intro g h
          unfold owns at h ⊢
          rw [St.upd_blk, lk_one, if_pos rfl] at h
          rw [hid]; exact h
        cases hp : posI n ks with
        | none =>
          refine ⟨_, run_mapUpdate_new hu hki h1' hkeys hp, out_setMap hR.m hid (Array.getElem?_eq_some_iff.1 h1').1 ho hs fun kk hh => ?_⟩
          rw [addI_none hp]
          refine ⟨_, _, hh, by simpa using h2, fun j k hj => ?_⟩
          rw [List.getElem?_append] at hj
          split at hj
          · rename_i hjl
            obtain ⟨en, g1, g2, g3⟩ := h3 j k hj
            exact ⟨en, by rw [Array.getElem?_push, if_neg (by omega)]; exact g1, g2, g3⟩
          · rename_i hjl
            obtain ⟨hj1, hj2⟩ := List.getElem?_eq_some_iff.1 hj
            have hj0 : j = ks.length := by simp at hj1; omega
            subst hj0
            refine ⟨_, by rw [Array.getElem?_push, if_pos (by omega)], ?_, rfl⟩
            simp at hj2
            simp [hj2]
        | some jj =>
          refine ⟨_, run_mapUpdate_old hu hki h1' hkeys hp, out_setMap hR.m hid (Array.getElem?_eq_some_iff.1 h1').1 ho hs fun kk hh => ?_⟩
          rw [addI_some hp]
          refine ⟨_, _, hh, by simpa using h2, fun j k hj => ?_⟩
          obtain ⟨en, g1, g2, g3⟩ := h3 j k hj
          rw [Array.getElem?_modify]
          by_cases hjj : jj = j
          · subst hjj
            rw [if_pos rfl, g1]
            rw [posI_lt hp] at hj
            exact ⟨_, rfl, by simp [Option.some.inj hj], rfl⟩
          · rw [if_neg hjj]
            exact ⟨en, g1, g2, g3⟩
      · rename_i e0 xs p hid
        obtain ⟨u, hu2, hq⟩ := opt_inv hq
        have hnk : posI n (xs.map (·.1)) = none := by
          unfold noKey at hu2
          split at hu2
          · cases hu2
          · rename_i hh; exact keyS_inr hh
        have hq1 := ask_inv hq
        clear hq
        obtain ⟨l2, hq, -⟩ := hq1
        split at hq
        · rename_i u2 cs hp
          split at hq
          · rename_i q hbe hso
            have hq1 := ask_inv hq
            clear hq
            obtain ⟨l3, hq, -⟩ := hq1
            split at hq
            · rename_i e' ts hs2
              split at hq
              · rename_i y hy
                simp only [Q.trace, Option.some.injEq, Prod.mk.injEq] at hq
                obtain ⟨rfl, _⟩ := hq
                obtain rfl := hv.ptr_inv
                have hb0 := hR.m.blks id _ hid
                obtain ⟨es, clock, h1, h2, h3, h4, h5, h6, h7⟩ := hb0
                have h1' : w.heap[bl id]? = some (.map es clock) := h1
                have hkeys : es.toList.map (·.key) = (xs.map (·.1)).map (Value.int .i64 ·) := by
                  obtain ⟨es2, clock2, a1, a2⟩ := mrow_keys (hR.m.blks id _ hid)
                  have a1' : w.heap[bl id]? = some (.map es2 clock2) := a1
                  rw [h1'] at a1'
                  obtain ⟨rfl, _⟩ : es = es2 ∧ clock = clock2 := by simpa using a1'
                  exact a2
                have ho : owns st bl sv id (bl id) := by unfold owns; rw [hid]; exact .inl rfl
                have fam : ∀ g, famO (sv id) (xs.length + 1) (some xs.length) g → famO (sv id) xs.length none g := by
                  rintro g ⟨k, b1, b2, b3⟩
                  refine ⟨k, ?_, by simp, b3⟩
                  have : xs.length ≠ k / 2 := fun h => b2 (by rw [h])
                  omega
                have hs : ∀ g, owns (st.upd [(id, .mrow e0 (xs ++ [(n, y)]) (some (xs.length, p, q.2)))]) bl sv id g → owns st bl sv id g := by
                  intro g h
                  unfold owns at h ⊢
                  rw [St.upd_blk, lk_one, if_pos rfl] at h
                  rw [hid]
                  rcases h with h | h
                  · exact .inl h
                  · simp only [List.length_append, List.length_cons, List.length_nil] at h
                    exact .inr (fam g h)
                refine ⟨_, run_mapUpdate_new hu hki h1' hkeys hnk, out_setMap hR.m hid (Array.getElem?_eq_some_iff.1 h1').1 ho hs fun kk hh => ?_⟩
                have hz2 : es.size = xs.length := h2
                refine ⟨_, _, hh, by simpa using h2, fun j z hj => ?_, fun i' p' s' he => ?_, ?_, ?_, h7⟩
                · rw [List.getElem?_append] at hj
                  split at hj
                  · rename_i hjl
                    obtain ⟨en, g1, g2, g3⟩ := h3 j z hj
                    refine ⟨en, by rw [Array.getElem?_push, if_neg (by omega)]; exact g1, g2, fun _ => ?_⟩
                    have g3' := g3 (by simp [holeAt])
                    obtain ⟨g, sl, q2, vs, sz, us, r1, r2, r3, r4, r5, r6, r7, r8, r9, r10⟩ := g3'
                    have r1' : famV (sv id) (2 * j) = some (.pointer (some ⟨g, 0, none⟩)) := r1
                    have r2' : famV (sv id) (2 * j + 1) = some sl := r2
                    have same : ∀ gg, famO (sv id) xs.length none gg → (w.putObj (bl id) (.map (es.push ⟨.int .i64 n, .pointer (some ⟨bl p, 0, none⟩), clock⟩) (clock + 1))).heap[gg]? = w.heap[gg]? := by
                      intro gg hgg
                      exact World.putObj_heap_other fun e => h6 (by rw [e] at hgg; exact hgg)
                    refine ⟨g, sl, q2, vs, sz, us, r1, r2, r3, r4, ?_, r6.keep kk, r7, ?_, r9.keep kk, r10⟩
                    · refine Eq.trans (same g ⟨2 * j, by omega, by simp, by simp [famN, r1', blkOf]⟩) r5
                    · have r8' : w.ownsRow 0 q2.e sz sl q2.ts.length us := r8
                      refine ⟨r8'.1, ?_⟩
                      rcases r8'.2 with hh2 | ⟨g2, cap, cur, hv2, hg2, hh2, r⟩
                      · exact .inl hh2
                      · refine .inr ⟨g2, cap, cur, hv2, hg2, ?_, r⟩
                        exact Eq.trans (same g2 ⟨2 * j + 1, by omega, by simp, by simp [famN, r2', hv2, blkOf, Value.ownBlock]⟩) hh2
                  · rename_i hjl
                    obtain ⟨hj1, hj2⟩ := List.getElem?_eq_some_iff.1 hj
                    have hj0 : j = xs.length := by simp at hj1; omega
                    subst hj0
                    refine ⟨_, by rw [Array.getElem?_push, if_pos (by omega)], ?_, fun hne => absurd rfl hne⟩
                    simp at hj2
                    simp [← hj2]
                · simp only [Option.some.injEq, Prod.mk.injEq] at he
                  obtain ⟨rfl, rfl, rfl⟩ := he
                  have l1 : (st.cx P E fc bl sv w).lv p := by show (st.blk p).isSome = true; rw [hp]; rfl
                  have l2 : (st.cx P E fc bl sv w).lv q.2 := by show (st.blk q.2).isSome = true; rw [hs2]; rfl
                  exact ⟨by simp, (kk.ids _ l1).1, (kk.ids _ l2).1, _, by rw [Array.getElem?_push, if_pos (by omega)], rfl⟩
                · intro k k' g b1 b2 b3 b4 b5 b6
                  simp only [List.length_append, List.length_cons, List.length_nil] at b1 b2
                  have c1 : xs.length ≠ k / 2 := fun h => b3 (by simp [holeAt, h])
                  have c2 : xs.length ≠ k' / 2 := fun h => b4 (by simp [holeAt, h])
                  exact h5 k k' g (by omega) (by omega) (by simp [holeAt]) (by simp [holeAt]) b5 b6
                · intro h
                  simp only [List.length_append, List.length_cons, List.length_nil] at h
                  exact h6 (fam _ h)
              · cases hq
            · cases hq
          · cases hq
        · cases hq
      · cases hq
    · cases hq
  · cases hq
end
end Go.Proofs.Ytemdppcnhlnicaa.Ev
