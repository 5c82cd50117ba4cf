/- Each operation but a call does what the evaluator tells. -/
import Derived.Test.YtemdppcnhlnicaaEvD
set_option linter.unusedVariables false
set_option linter.unusedSimpArgs false
namespace Go.Proofs.Ytemdppcnhlnicaa.Ev
open Go Go.RowKit
variable {G : Nat → Type}
section
variable {P : Program} {E : Env G} {C : Oracle G} {fc : FC} {bl : Nat → Nat} {sv : Nat → Value} {st : St G} {a : Act} {w : World}

theorem add_plain (b off n : Nat) : (⟨b, off, none⟩ : Addr).add n = ⟨b, off + n, none⟩ := by unfold Addr.add; split <;> simp_all

theorem Rep.int_inv {c : Cx G} {k : IntKind} {n : Int} {v : Value} (h : Rep c (.int k n) v) : v = .int k n := by cases h; rfl
theorem Rep.bool_inv {c : Cx G} {b : Bool} {v : Value} (h : Rep c (.bool b) v) : v = .bool b := by cases h; rfl
theorem Rep.str_inv {c : Cx G} {s : ByteArray} {v : Value} (h : Rep c (.str s) v) : v = .string s := by cases h; rfl
theorem Rep.flt_inv {c : Cx G} {n : Int} {v : Value} (h : Rep c (.flt n) v) : v = .float .f64 (fl n) ∧ flOk n = true := by cases h with | flt n h => exact ⟨rfl, h⟩
theorem Rep.cpx_inv {c : Cx G} {m n : Int} {v : Value} (h : Rep c (.cpx m n) v) : v = .complex .f64 (fl m) (fl n) ∧ flOk m = true ∧ flOk n = true := by cases h with | cpx m n h h' => exact ⟨rfl, h, h'⟩
theorem Rep.nilptr_inv {c : Cx G} {v : Value} (h : Rep c .nilptr v) : v = .pointer none := by cases h; rfl
theorem Rep.nilsl_inv {c : Cx G} {v : Value} (h : Rep c .nilsl v) : v = .slice none 0 0 := by cases h; rfl
theorem Rep.ptr_inv {c : Cx G} {id off : Nat} {v : Value} (h : Rep c (.ptr id off) v) : v = .pointer (some ⟨c.bl id, off, none⟩) := by cases h; rfl
theorem Rep.agg_inv {c : Cx G} {cs : List (AV G)} {v : Value} (h : Rep c (.agg cs) v) : ∃ vs : List Value, v = .agg vs.toArray ∧ Reps c cs vs := by cases h with | agg cs vs hl hr => exact ⟨vs, rfl, hl, hr⟩
theorem Rep.tup_inv {c : Cx G} {cs : List (AV G)} {v : Value} (h : Rep c (.tup cs) v) : ∃ vs : List Value, v = .tuple vs.toArray ∧ Reps c cs vs := by cases h with | tup cs vs hl hr => exact ⟨vs, rfl, hl, hr⟩

theorem Rep.rosn_ros {c : Cx G} {e : Nat} {xs : List (G e)} {v : Value} (h : Rep c (.rosn e xs) v) : Rep c (.ros e xs) v := by
  cases h with
  | rosn0 e a cap => exact .ros0 e (some a) cap (fun h => by cases h)
  | rosn e xs A cap h => exact h
theorem Rep.rosn_inv {c : Cx G} {e : Nat} {xs : List (G e)} {v : Value} (h : Rep c (.rosn e xs) v) : ∃ A n cap, v = .slice (some A) n cap := by
  cases h with
  | rosn0 e a cap => exact ⟨_, _, _, rfl⟩
  | rosn e xs A cap h => exact ⟨_, _, _, rfl⟩
/-! ### Reading -/
theorem getD_of_get? {vs : List Value} {j : Nat} (h : j < vs.length) : vs[j]? = some (vs.getD j undef) := by
  simp [List.getD, List.getElem?_eq_getElem h]
theorem load_run {c : Cx G} {t off b o : Nat} {cs : List (AV G)} {vs : List Value} {r : AV G} (h : partOf P t cs off = some r) (hr : Reps c cs vs)
    (hc : ∀ j, j < cs.length → w.cell? ⟨b, o + j, none⟩ = some (vs.getD j undef)) : ∃ v, (loadVar t ⟨b, o + off, none⟩).run P w = .ok v w ∧ Rep c r v := by
  unfold partOf at h
  cases ha : agg? P t with
  | none => simp [ha] at h
  | some bb =>
    cases hs : sizeOf? P t with
    | none => cases bb <;> simp [ha, hs] at h
    | some n =>
      cases bb with
      | true =>
        simp only [ha, hs] at h
        split at h
        · rename_i hle
          have hle' : off + n ≤ cs.length := Nat.le_of_ble_eq_true hle
          obtain rfl := Option.some.inj h
          have h2 := (hr.drop off).take n
          have hl := run_loadCells (P := P) w ⟨b, o + off, none⟩ n (fun j => vs.getD (off + j) undef) (fun j hj => by
            rw [add_plain, Nat.add_assoc]; exact hc (off + j) (by omega))
          refine ⟨_, by simp only [loadVar, Sem.run_bind, run_agg? ha, Result.andThen_ok, if_true, run_sizeOf? hs, hl, Sem.run_pure]; rfl, ?_⟩
          have e : (List.range n).map (fun j => vs.getD (off + j) undef) = (vs.drop off).take n := by
            apply List.ext_getElem?
            intro j
            by_cases hj : j < n
            · have hlt : off + j < vs.length := by rw [hr.1]; omega
              simp [hj, List.getElem?_take, List.getElem?_drop, List.getElem?_eq_getElem hlt, List.getD]
            · simp [hj, List.getElem?_take]
          rw [e]
          exact .agg _ _ h2.1 h2.2
        · cases h
      | false =>
        simp only [ha, hs] at h
        have hlt : off < cs.length := (List.getElem?_eq_some_iff.1 h).1
        obtain ⟨v, hv, hrep⟩ := hr.get h
        refine ⟨v, ?_, hrep⟩
        have hcell := hc off hlt
        have e : vs.getD off undef = v := by simp [List.getD, hv]
        rw [e] at hcell
        simp only [loadVar, Sem.run_bind, run_agg? ha, Result.andThen_ok, Bool.false_eq_true, if_false, run_load, hcell]

theorem cell_fix {b t : Nat} {vs : List Value} (h : w.heap[b]? = some (.cells vs.toArray t (0, 0))) (j : Nat) (hj : j < vs.length) : w.cell? ⟨b, j, none⟩ = some (vs.getD j undef) := by
  rw [cell_of_row w b j _ t _ h]
  simp [List.getD, List.getElem?_eq_getElem hj]

theorem flat_at {α β : Type} (f : α → List β) (sz : Nat) : ∀ (xs : List α), (∀ x ∈ xs, (f x).length = sz) → ∀ (i : Nat) (x : α), xs[i]? = some x → ((xs.flatMap f).drop (i * sz)).take sz = f x := by
  intro xs
  induction xs with
  | nil => intro _ i x h; simp at h
  | cons y ys ih =>
    intro hl i x hx
    have hy := hl y (by simp)
    cases i with
    | zero =>
      simp only [List.getElem?_cons_zero, Option.some.injEq] at hx
      subst hx
      simp only [List.flatMap_cons, Nat.zero_mul, List.drop_zero]
      rw [← hy]; simp
    | succ i =>
      simp only [List.getElem?_cons_succ] at hx
      have := ih (fun z hz => hl z (by simp [hz])) i x hx
      rw [← this]
      simp only [List.flatMap_cons, Nat.succ_mul]
      rw [Nat.add_comm, ← List.drop_drop, ← hy, List.drop_left]
theorem flat_len {α β : Type} (f : α → List β) (sz : Nat) : ∀ (xs : List α), (∀ x ∈ xs, (f x).length = sz) → (xs.flatMap f).length = xs.length * sz := by
  intro xs
  induction xs with
  | nil => intro _; simp
  | cons y ys ih => intro hl; simp only [List.flatMap_cons, List.length_append, List.length_cons, hl y (by simp), ih (fun z hz => hl z (by simp [hz])), Nat.succ_mul, Nat.add_comm]
theorem flat_set {α β : Type} (f : α → List β) (sz : Nat) : ∀ (xs : List α), (∀ x ∈ xs, (f x).length = sz) → ∀ (i : Nat) (x : α), i < xs.length → (f x).length = sz →
    (xs.set i x).flatMap f = (xs.flatMap f).take (i * sz) ++ f x ++ (xs.flatMap f).drop (i * sz + sz) := by
  intro xs
  induction xs with
  | nil => intro _ i x h; simp at h
  | cons y ys ih =>
    intro hl i x hi hx
    have hy := hl y (by simp)
    cases i with
    | zero =>
      simp only [List.set_cons_zero, List.flatMap_cons, Nat.zero_mul, List.take_zero, List.nil_append, Nat.zero_add]
      rw [← hy, List.drop_left]
    | succ i =>
      have := ih (fun z hz => hl z (by simp [hz])) i x (by simpa using hi) hx
      have e1 : (f y ++ ys.flatMap f).take ((i + 1) * sz) = f y ++ (ys.flatMap f).take (i * sz) := by
        rw [List.take_append, hy, Nat.succ_mul, Nat.add_sub_cancel]
        rw [List.take_of_length_le (by omega)]
      have e2 : (f y ++ ys.flatMap f).drop ((i + 1) * sz + sz) = (ys.flatMap f).drop (i * sz + sz) := by
        rw [List.drop_append, hy, Nat.succ_mul]
        rw [List.drop_eq_nil_of_le (by omega), List.nil_append]
        congr 1; omega
      simp only [List.set_cons_succ, List.flatMap_cons, this, e1, e2, List.append_assoc]

/-- A row of the call's own, that has an element: where it lies. -/
theorem row_at (m : MRel P E fc bl sv st w) {id e : Nat} {xs : List (G e)} (hid : st.blk id = some (.row e xs)) {i : Nat} {x : G e} (hx : xs[i]? = some x) :
    ∃ sz vs g cap cur, sizeOf? P e = some sz ∧ sv id = .slice (some ⟨g, 0, none⟩) xs.length cap ∧ w.heap[g]? = some (.cells cur e (0, 0)) ∧ xs.length ≤ cap ∧ cur.size = cap * sz ∧ cur.toList.take (xs.length * sz) = vs ∧
      Reps (st.cx P E fc bl sv w) (xs.flatMap (E.enc e)) vs ∧ (∀ x ∈ xs, (E.enc e x).length = sz) := by
  obtain ⟨sz, vs, hsz, hown, hr, hl⟩ := m.blks id _ hid
  have hown' : w.ownsRow 0 e sz (sv id) xs.length vs := hown
  rcases hown'.2 with ⟨_, h0⟩ | ⟨g, cap, cur, hv, _, hh, r1, r2, r3, r4⟩
  · rw [List.eq_nil_of_length_eq_zero h0] at hx; simp at hx
  · exact ⟨sz, vs, g, cap, cur, hsz, hv, hh, r1, r3, r4, hr, hl⟩

theorem row_elem (m : MRel P E fc bl sv st w) {id e : Nat} {xs : List (G e)} (hid : st.blk id = some (.row e xs)) {i : Nat} {x : G e} (hx : xs[i]? = some x) {g n cap : Nat} (hsv : sv id = .slice (some ⟨g, 0, none⟩) n cap) :
    ∃ sz vs, sizeOf? P e = some sz ∧ Reps (st.cx P E fc bl sv w) (E.enc e x) vs ∧ ∀ j, j < (E.enc e x).length → w.cell? ⟨g, i * sz + j, none⟩ = some (vs.getD j undef) := by
  obtain ⟨sz, vs, g', cap', cur, hsz, hv, hh, r1, r3, r4, hr, hl⟩ := row_at m hid hx
  rw [hsv] at hv
  simp only [Value.slice.injEq, Option.some.injEq, Addr.mk.injEq] at hv
  obtain ⟨⟨rfl, _⟩, _, rfl⟩ := hv
  have hi : i < xs.length := (List.getElem?_eq_some_iff.1 hx).1
  have hxl := hl x (List.mem_of_getElem? hx)
  have he := flat_at (E.enc e) sz xs hl i x hx
  have hrr := (hr.drop (i * sz)).take sz
  rw [he] at hrr
  refine ⟨sz, _, hsz, hrr, fun j hj => ?_⟩
  rw [cell_of_row w g _ _ e _ hh]
  have hj' : j < sz := by omega
  have hb : i * sz + j < xs.length * sz := by
    have : (i + 1) * sz ≤ xs.length * sz := Nat.mul_le_mul_right sz hi
    rw [Nat.succ_mul] at this; omega
  have hlen : vs.length = xs.length * sz := by rw [hr.1]; exact flat_len _ _ _ hl
  have h1 : cur[i * sz + j]? = vs[i * sz + j]? := by
    rw [← r4, List.getElem?_take, if_pos hb]; simp
  rw [h1]
  have h2 : i * sz + j < vs.length := by omega
  simp [List.getD, List.getElem?_take, List.getElem?_drop, hj', List.getElem?_eq_getElem h2]

theorem sizeIs_eq {e sz n : Nat} (h : sizeIs P e sz = true) (hn : sizeOf? P e = some n) : n = sz := by
  unfold sizeIs at h
  rw [hn] at h
  exact Nat.eq_of_beq_eq_true h
theorem ofO_inv {o : Option (AV G)} {h : Nat → Option (Blk G)} {e : Eff G} {l : List Nat} (hh : (ofO o).trace h = some (e, l)) : ∃ r, o = some r ∧ e = ⟨r, []⟩ := by
  cases o with
  | none => cases hh
  | some r => simp only [ofO, pureE, Q.trace, Option.some.injEq, Prod.mk.injEq] at hh; exact ⟨r, rfl, hh.1.symm⟩
theorem intsOf_get {k : IntKind} : ∀ {cs : List (AV G)} {xs : List Int}, intsOf k cs = some xs → xs.length = cs.length ∧ ∀ i, i < xs.length → cs[i]? = some (.int k (xs.getD i 0)) := by
  intro cs
  induction cs with
  | nil => intro xs h; obtain rfl := Option.some.inj h; exact ⟨rfl, fun i hi => by simp at hi⟩
  | cons c cs ih =>
    intro xs h
    cases c with
    | int k' n =>
      simp only [intsOf] at h
      split at h
      · rename_i l hd hl
        obtain rfl := Option.some.inj h
        obtain rfl := of_decide_eq_true hd
        obtain ⟨h1, h2⟩ := ih hl
        refine ⟨by simp [h1], fun i hi => ?_⟩
        cases i with
        | zero => simp
        | succ i => simpa using h2 i (by simpa using hi)
      · cases h
    | _ => simp [intsOf] at h
theorem intKind?_inv {t : Nat} {k : IntKind} (h : intKind? P t = some k) : P.underlying t = some (.int k) := by
  unfold intKind? at h
  split at h
  · rename_i hu; rw [hu, Option.some.inj h]
  · cases h
theorem part_int {t : Nat} {k : IntKind} {n : Nat} (h : intKind? P t = some k) (hs : sizeOf? P t = some n) {cs : List (AV G)} {off : Nat} {r : AV G} (hr : cs[off]? = some r) : partOf P t cs off = some r := by
  have hu := intKind?_inv h
  unfold partOf agg?
  simp only [hu, hs, hr]
theorem arr_get {k : IntKind} {cs : List (AV G)} {off len i : Nat} {xs : List Int} (h : intsOf k ((cs.drop off).take len) = some xs) (hle : off + len ≤ cs.length) (hi : i < len) : xs.length = len ∧ cs[off + i]? = some (.int k (xs.getD i 0)) := by
  obtain ⟨h1, h2⟩ := intsOf_get h
  have hl : xs.length = len := by rw [h1]; simp; omega
  refine ⟨hl, ?_⟩
  have := h2 i (by omega)
  rwa [List.getElem?_take, if_pos hi, List.getElem?_drop] at this
theorem Rep.aptr_inv {c : Cx G} {id off len i : Nat} {v : Value} (h : Rep c (.aptr id off len i) v) : v = .pointer (some ⟨c.bl id, off + i, none⟩) ∧ i < len := by cases h with | aptr _ _ _ _ _ hi => exact ⟨rfl, hi⟩
theorem gets_inv {α β : Type} {h : Nat → Option (Blk G)} {r : α × List Nat} {xs : List β} : ∀ (n i : Nat) (k : List β → Q G α), (getsQ xs n i k).trace h = some r → ((xs.drop i).take n).length = n ∧ (k ((xs.drop i).take n)).trace h = some r := by
  intro n
  induction n with
  | zero => intro i k hq; exact ⟨by simp, by simpa [getsQ] using hq⟩
  | succ n ih =>
    intro i k hq
    simp only [getsQ, Q.trace, Option.bind_eq_some_iff] at hq
    obtain ⟨x, hx, hq⟩ := hq
    obtain ⟨h1, h2⟩ := ih (i + 1) _ hq
    obtain ⟨hi, hxi⟩ := List.getElem?_eq_some_iff.1 hx
    have e : (xs.drop i).take (n + 1) = x :: (xs.drop (i + 1)).take n := by
      rw [List.drop_eq_getElem_cons hi, List.take_succ_cons, hxi]
    rw [e]
    exact ⟨by simp [h1], h2⟩
theorem flat_drop {α β : Type} (f : α → List β) (sz : Nat) : ∀ (xs : List α), (∀ x ∈ xs, (f x).length = sz) → ∀ i, (xs.flatMap f).drop (i * sz) = (xs.drop i).flatMap f := by
  intro xs
  induction xs with
  | nil => intro _ i; simp
  | cons x xs ih =>
    intro h i
    cases i with
    | zero => simp
    | succ i =>
      rw [List.flatMap_cons, List.drop_succ_cons, ← ih (fun y hy => h y (List.mem_cons_of_mem _ hy)) i, Nat.succ_mul, Nat.add_comm, List.drop_append, ← h x (List.mem_cons_self ..)]
      simp
theorem flat_take {α β : Type} (f : α → List β) (sz : Nat) : ∀ (xs : List α), (∀ x ∈ xs, (f x).length = sz) → ∀ i, (xs.flatMap f).take (i * sz) = (xs.take i).flatMap f := by
  intro xs
  induction xs with
  | nil => intro _ i; simp
  | cons x xs ih =>
    intro h i
    cases i with
    | zero => simp
    | succ i =>
      rw [List.flatMap_cons, List.take_succ_cons, List.flatMap_cons, ← ih (fun y hy => h y (List.mem_cons_of_mem _ hy)) i, Nat.succ_mul, Nat.add_comm, List.take_append, ← h x (List.mem_cons_self ..)]
      rw [List.take_of_length_le (Nat.le_add_right _ _), Nat.add_sub_cancel_left]
/-- Elements of a row of the call's own, from a place on: where they lie. -/
theorem row_elems (m : MRel P E fc bl sv st w) {id e : Nat} {xs : List (G e)} (hid : st.blk id = some (.row e xs)) {i len : Nat} (h1 : 1 ≤ len) (hl : ((xs.drop i).take len).length = len) {g n cap : Nat} (hsv : sv id = .slice (some ⟨g, 0, none⟩) n cap) :
    ∃ sz vs, sizeOf? P e = some sz ∧ Reps (st.cx P E fc bl sv w) (((xs.drop i).take len).flatMap (E.enc e)) vs ∧ (((xs.drop i).take len).flatMap (E.enc e)).length = len * sz ∧
      ∀ j, j < len * sz → w.cell? ⟨g, i * sz + j, none⟩ = some (vs.getD j undef) := by
  have hle : i + len ≤ xs.length := by simp only [List.length_take, List.length_drop] at hl; omega
  have hi : i < xs.length := by omega
  obtain ⟨sz, vs, g', cap', cur, hsz, hv, hh, r1, r3, r4, hr, hlx⟩ := row_at m hid (List.getElem?_eq_getElem hi)
  rw [hsv] at hv
  simp only [Value.slice.injEq, Option.some.injEq, Addr.mk.injEq] at hv
  obtain ⟨⟨rfl, _⟩, _, rfl⟩ := hv
  have hrr := (hr.drop (i * sz)).take (len * sz)
  rw [flat_drop (E.enc e) sz xs hlx i, flat_take (E.enc e) sz _ (fun x hx => hlx x (List.mem_of_mem_drop hx)) len] at hrr
  have hfl : (((xs.drop i).take len).flatMap (E.enc e)).length = len * sz := by
    have := flat_len (E.enc e) sz ((xs.drop i).take len) (fun x hx => hlx x (List.mem_of_mem_drop (List.mem_of_mem_take hx)))
    rw [this, hl]
  refine ⟨sz, _, hsz, hrr, hfl, fun j hj => ?_⟩
  rw [cell_of_row w g _ _ e _ hh]
  have hb : i * sz + j < xs.length * sz := by
    have : (i + len) * sz ≤ xs.length * sz := Nat.mul_le_mul_right sz hle
    rw [Nat.add_mul] at this; omega
  have hlen : vs.length = xs.length * sz := by rw [hr.1]; exact flat_len _ _ _ hlx
  have h1 : cur[i * sz + j]? = vs[i * sz + j]? := by
    rw [← r4, List.getElem?_take, if_pos hb]; simp
  rw [h1]
  have h2 : i * sz + j < vs.length := by omega
  simp [List.getD, List.getElem?_take, List.getElem?_drop, hj, List.getElem?_eq_getElem h2]
theorem arrOf?_inv {t e off sz len : Nat} (h : arrOf? P t e off sz = some len) : P.underlying t = some (.array len e) ∧ off = 0 ∧ sizeOf? P t = some (len * sz) ∧ 1 ≤ len := by
  unfold arrOf? at h
  split at h
  · rename_i len' el n hu hs
    split at h
    · rename_i h1 h2 h3
      obtain rfl := Option.some.inj h
      exact ⟨by rw [hu, Nat.eq_of_beq_eq_true h1], rfl, by rw [hs, Nat.eq_of_beq_eq_true h3], Nat.le_of_ble_eq_true h2⟩
    · cases h
  · cases h
theorem Rep.oarr_inv {c : Cx G} {id i sz off len j : Nat} {v : Value} (h : Rep c (.oarr id i sz off len j) v) : ∃ g n cap, c.lv id ∧ v = .pointer (some ⟨g, i * sz + (off + j), none⟩) ∧ j < len ∧ c.sv id = .slice (some ⟨g, 0, none⟩) n cap := by
  cases h with | oarr _ _ _ _ _ _ g n cap h hj hs => exact ⟨g, n, cap, h, rfl, hj, hs⟩
theorem load_pure (hR : Rel P E fc bl sv st a w) {t : Nat} {x : AV G} {v : Value} (hx : Rep (st.cx P E fc bl sv w) x v) {e : Eff G} {l : List Nat} (hq : (loadQ P E t x).trace st.blk = some (e, l)) :
    ∃ r, (Instr.loadAt t v).run P w = .ok r w ∧ (asAddr v).run P w = (Instr.sureAddr v).run P w ∧ e.upd = [] ∧ Rep (st.cx P E fc bl sv w) e.res r := by
  unfold loadQ at hq
  split at hq
  · rename_i id off
    obtain rfl := hx.ptr_inv
    simp only [Q.trace, Option.map_eq_some_iff, Prod.mk.injEq] at hq
    obtain ⟨⟨e', l'⟩, hq, rfl, _⟩ := hq
    split at hq
    · rename_i t' cs hb
      obtain ⟨r, hp, rfl⟩ := ofO_inv hq
      obtain ⟨vs, hv, hr⟩ := hR.m.blks id _ hb
      obtain ⟨r', hrun, hrep⟩ := load_run (w := w) (o := 0) hp hr (fun j hj => by rw [Nat.zero_add]; exact cell_fix hv j (by rw [hr.1]; exact hj))
      refine ⟨r', ?_, rfl, rfl, hrep⟩
      simpa [Instr.loadAt, Instr.sureAddr] using hrun
    · cases hq
  · rename_i cs
    obtain ⟨r, hp, rfl⟩ := ofO_inv hq
    cases hx with
    | rop b off cs vs hb ho hc hr =>
      have hrs : Reps (st.cx P E fc bl sv w) cs ((List.range cs.length).map vs) := ⟨by simp, fun j hj => by simpa [List.getD, hj] using hr j hj⟩
      obtain ⟨r', hrun, hrep⟩ := load_run (w := w) (o := off) hp hrs (fun j hj => by rw [show ((List.range cs.length).map vs).getD j undef = vs j by simp [List.getD, hj]]; exact hc j hj)
      refine ⟨r', ?_, rfl, rfl, hrep⟩
      simpa [Instr.loadAt, Instr.sureAddr] using hrun
  · rename_i id i sz off
    simp only [Q.trace, Option.map_eq_some_iff, Prod.mk.injEq] at hq
    obtain ⟨⟨e', l'⟩, hq, rfl, _⟩ := hq
    split at hq
    · rename_i e0 xs hb
      split at hq
      · rename_i hsi
        split at hq
        · rename_i len hao
          obtain ⟨hau, rfl, has, ha1⟩ := arrOf?_inv hao
          obtain ⟨hyl, hq⟩ := gets_inv _ _ _ hq
          simp only [pureE, Q.trace, Option.some.injEq, Prod.mk.injEq] at hq
          obtain ⟨rfl, _⟩ := hq
          cases hx with
          | optr id i sz off g n cap hlv hsv =>
            obtain ⟨sz', vs, hsz, hrs, hfl, hc⟩ := row_elems hR.m hb ha1 hyl hsv
            obtain rfl := sizeIs_eq hsi hsz
            have hp : partOf P t (((xs.drop i).take len).flatMap (E.enc e0)) 0 = some (.agg (((xs.drop i).take len).flatMap (E.enc e0))) := by
              unfold partOf agg?
              simp only [hau, has, hfl, Nat.zero_add]
              rw [show Nat.ble (len * sz') (len * sz') = true from Nat.ble_eq_true_of_le (Nat.le_refl _)]
              simp only [List.drop_zero]
              rw [List.take_of_length_le (by rw [hfl]; exact Nat.le_refl _)]
            obtain ⟨r', hrun, hrep⟩ := load_run (w := w) (o := _) hp hrs (fun j hj => hc j (by omega))
            refine ⟨r', ?_, rfl, rfl, hrep⟩
            simpa [Instr.loadAt, Instr.sureAddr] using hrun
        simp only [Q.trace, Option.bind_eq_some_iff] at hq
        obtain ⟨x, hxi, hq⟩ := hq
        obtain ⟨r, hp, rfl⟩ := ofO_inv hq
        cases hx with
        | optr id i sz off g n cap hlv hsv =>
          obtain ⟨sz', vs, hsz, hrs, hc⟩ := row_elem hR.m hb hxi hsv
          obtain rfl := sizeIs_eq hsi hsz
          obtain ⟨r', hrun, hrep⟩ := load_run (w := w) (o := _) hp hrs hc
          refine ⟨r', ?_, rfl, rfl, hrep⟩
          simpa [Instr.loadAt, Instr.sureAddr] using hrun
      · cases hq
    · cases hq
  · rename_i id i sz off len j
    simp only [Q.trace, Option.map_eq_some_iff, Prod.mk.injEq] at hq
    obtain ⟨⟨e', l'⟩, hq, rfl, _⟩ := hq
    split at hq
    · rename_i e0 xs k hb hk hs
      split at hq
      · rename_i hsi
        simp only [Q.trace, Option.bind_eq_some_iff] at hq
        obtain ⟨x, hxi, hq⟩ := hq
        split at hq
        · rename_i ns hx1 hle
          simp only [pureE, Q.trace, Option.some.injEq, Prod.mk.injEq] at hq
          obtain ⟨rfl, _⟩ := hq
          obtain ⟨g, n, cap, hlv, rfl, hj, hsv⟩ := hx.oarr_inv
          obtain ⟨sz', vs, hsz, hrs, hc⟩ := row_elem hR.m hb hxi hsv
          obtain rfl := sizeIs_eq hsi hsz
          obtain ⟨_, hg⟩ := arr_get hx1 (Nat.le_of_ble_eq_true hle) hj
          obtain ⟨r', hrun, hrep⟩ := load_run (w := w) (o := _) (part_int hk hs hg) hrs hc
          refine ⟨r', ?_, rfl, rfl, hrep⟩
          simpa [Instr.loadAt, Instr.sureAddr] using hrun
        · cases hq
      · cases hq
    · cases hq
  · rename_i id off len i
    simp only [Q.trace, Option.map_eq_some_iff, Prod.mk.injEq] at hq
    obtain ⟨⟨e', l'⟩, hq, rfl, _⟩ := hq
    split at hq
    · rename_i u' cs k hb hk hs
      split at hq
      · rename_i xs hx1 hle
        simp only [pureE, Q.trace, Option.some.injEq, Prod.mk.injEq] at hq
        obtain ⟨rfl, _⟩ := hq
        obtain ⟨rfl, hi⟩ := hx.aptr_inv
        obtain ⟨_, hg⟩ := arr_get hx1 (Nat.le_of_ble_eq_true hle) hi
        obtain ⟨vs, hv, hr⟩ := hR.m.blks id _ hb
        obtain ⟨r', hrun, hrep⟩ := load_run (w := w) (o := 0) (part_int hk hs hg) hr (fun j hj => by rw [Nat.zero_add]; exact cell_fix hv j (by rw [hr.1]; exact hj))
        refine ⟨r', ?_, rfl, rfl, hrep⟩
        simpa [Instr.loadAt, Instr.sureAddr] using hrun
      · cases hq
    · cases hq
  · cases hq
theorem load_ok (hR : Rel P E fc bl sv st a w) {t : Nat} {x : AV G} {v : Value} (hx : Rep (st.cx P E fc bl sv w) x v) {e : Eff G} {l : List Nat} (hq : (loadQ P E t x).trace st.blk = some (e, l)) :
    ∃ r, (Instr.loadAt t v).run P w = .ok r w ∧ Out P E fc bl sv st w e r w := by
  obtain ⟨r, h1, _, h2, h3⟩ := load_pure hR hx hq
  obtain ⟨res, upd⟩ := e
  obtain rfl : upd = [] := h2
  exact ⟨r, h1, Out.pure hR.m h3⟩
end
end Go.Proofs.Ytemdppcnhlnicaa.Ev
