/- Rows: made, grown; the builtins; every operation but a call. -/
import Derived.Test.YtgjglkogengmbaaEvH
import Derived.Maps.AppendAt
import Derived.Laws.OwnMore
import Derived.Laws.MakeOwn
set_option linter.unusedVariables false
set_option linter.unusedSimpArgs false
namespace Go.Proofs.Ytgjglkogengmbaa.Ev
open Go Go.RowKit
variable {G : Nat → Type}
section
variable {P : Program} {E : Env G} {C : Oracle G} {fc : FC} {bl : Nat → Nat} {sv : Nat → Value} {st : St G} {a : Act} {w : World}

theorem bytesOf?_inv {el bytes : Nat} (h : bytesOf? P el = some bytes) : ∃ i z, P.info? el = some i ∧ i.zero = some z ∧ z.cells.size = i.size ∧ 0 < i.size ∧ i.bytes = bytes ∧ 0 < bytes := by
  unfold bytesOf? at h
  split at h
  · rename_i i hi
    split at h
    · rename_i z n hz hn
      split at h
      · rename_i hb hb2
        have h1 := Option.some.inj h
        exact ⟨i, z, hi, hz, by rw [hn]; exact Nat.eq_of_beq_eq_true hb, by omega, h1, by rw [← h1]; exact Nat.le_of_ble_eq_true hb2⟩
      · cases h
    · cases h
  · cases h

theorem grownBy_refl (w : World) (row : Option Nat) : w.grownBy w row := ⟨rfl, rfl, rfl, Nat.le_refl _, fun _ _ _ => rfl⟩
theorem grownBy_alloc' (w : World) (o : Obj) : w.grownBy (w.alloc o) none := ⟨rfl, rfl, rfl, by simp, fun k hk _ => Below.heap_alloc w o k hk⟩

/-- A new row with these cells. -/
theorem out_newrow (hE : EnvOk P E) (m : MRel P E fc bl sv st w) {base el n sz : Nat} (hf : st.blk base = none) {xs : List (G el)} {vs : List Value} (hsz : sizeOf? P el = some sz) (hn : n = xs.length) (hm : n ≤ maxLen)
    (hr : Reps (st.cx P E fc bl sv w) (xs.flatMap (E.enc el)) vs) :
    Out P E fc bl sv st w ⟨.osl base, [(base, .row el xs)]⟩ (.slice (some ⟨w.heap.size, 0, none⟩) n n) (w.alloc (.cells vs.toArray el)) := by
  subst hn
  have hl : ∀ x ∈ xs, (E.enc el x).length = sz := fun x _ => hE.len el x sz hsz
  have hvl : vs.length = xs.length * sz := by rw [hr.1]; exact flat_len _ _ _ hl
  refine out_row m hf [] (by simp) hsz ?_ (grownBy_alloc' w _) (by simp) ?_ hr hl
  · refine ⟨hvl, .inr ⟨w.heap.size, xs.length, vs.toArray, rfl, Nat.zero_le _, heap_alloc_new w _, Nat.le_refl _, hm, by simpa using hvl, ?_⟩⟩
    rw [← hvl]; simp
  · intro g hg
    simp only [Value.ownBlock, Option.some.injEq] at hg
    exact .inr (Nat.le_of_eq hg)

theorem decAll_ok (hE : EnvOk P E) {el : Nat} {c : Cx G} : ∀ (cs : List (List (AV G))) (xs : List (G el)) (vss : List (List Value)), decAll E el cs = some xs → vss.length = cs.length → (∀ (j : Nat) (a : List (AV G)) (v : List Value), cs[j]? = some a → vss[j]? = some v → Reps c a v) →
    Reps c (xs.flatMap (E.enc el)) vss.flatten ∧ xs.length = cs.length := by
  intro cs
  induction cs with
  | nil =>
    intro xs vss h hl _
    simp only [decAll, Option.some.injEq] at h
    subst h
    obtain rfl := List.eq_nil_of_length_eq_zero hl
    exact ⟨Reps.nil c, rfl⟩
  | cons a cs ih =>
    intro xs vss h hl hp
    simp only [decAll] at h
    split at h
    · rename_i x xs' h1 h2
      obtain rfl := Option.some.inj h
      cases vss with
      | nil => simp at hl
      | cons v vss =>
        obtain ⟨e1, e2⟩ := ih xs' vss h2 (by simpa using hl) (fun j a' v' ha hv => hp (j + 1) a' v' (by simpa using ha) (by simpa using hv))
        exact ⟨by simpa using (hE.dec el a x h1 c v (hp 0 a v rfl rfl)).append e1, by simp [e2]⟩
    · cases h

theorem chunks_len {α : Type} (sz : Nat) : ∀ (n : Nat) (cs : List α), (chunks sz n cs).length = n := by
  intro n
  induction n with
  | zero => intro cs; rfl
  | succ n ih => intro cs; simp [chunks, ih]
theorem chunks_flat {α : Type} (sz : Nat) : ∀ (n : Nat) (cs : List α), cs.length = n * sz → (chunks sz n cs).flatten = cs := by
  intro n
  induction n with
  | zero => intro cs h; simp [chunks]; exact List.eq_nil_of_length_eq_zero (by simpa using h)
  | succ n ih =>
    intro cs h
    simp only [chunks, List.flatten_cons]
    rw [ih _ (by simp [h, Nat.succ_mul]), List.take_append_drop]
theorem chunks_reps {c : Cx G} (sz : Nat) : ∀ (n : Nat) (cs : List (AV G)) (vs : List Value), Reps c cs vs → ∀ (j : Nat) (a : List (AV G)) (v : List Value), (chunks sz n cs)[j]? = some a → (chunks sz n vs)[j]? = some v → Reps c a v := by
  intro n
  induction n with
  | zero => intro cs vs _ j a v h; simp [chunks] at h
  | succ n ih =>
    intro cs vs hr j a v ha hv
    cases j with
    | zero =>
      simp only [chunks, List.getElem?_cons_zero, Option.some.injEq] at ha hv
      subst ha; subst hv
      exact hr.take sz
    | succ j => exact ih _ _ (hr.drop sz) j a v (by simpa [chunks] using ha) (by simpa [chunks] using hv)

theorem buildSlice_ok (hE : EnvOk P E) (hR : Rel P E fc bl sv st a w) {t n base : Nat} (hf : st.blk base = none) {ps : List (Nat × AV G)} {qs : Array (Nat × Value)} (hl : qs.toList.length = ps.length)
    (hp : ∀ (j : Nat) (p : Nat × AV G) (q : Nat × Value), ps[j]? = some p → qs.toList[j]? = some q → q.1 = p.1 ∧ Rep (st.cx P E fc bl sv w) p.2 q.2) {e : Eff G} {l : List Nat} (hq : (buildSliceQ P E t n ps base).trace st.blk = some (e, l)) :
    ∃ r w', (Instr.buildSlice t n qs).run P w = .ok r w' ∧ Out P E fc bl sv st w e r w' := by
  unfold buildSliceQ at hq
  split at hq
  · rename_i el hu
    split at hq
    · rename_i b sz hb hsz
      split at hq
      · rename_i cs hle hf'
        split at hq
        · rename_i xs hd
          simp only [Q.trace, Option.some.injEq, Prod.mk.injEq] at hq
          obtain ⟨rfl, _⟩ := hq
          obtain ⟨i, z, hi, hz, hzs, hpos, _⟩ := bytesOf?_inv hb
          have hsi : i.size = sz := by have := hsz; unfold sizeOf? at this; rw [hi] at this; simpa using this
          have hle' : n * sz ≤ 16777216 := Nat.le_of_ble_eq_true hle
          have init : ∀ arr : Array Value, arr.size = n * sz → Reps (st.cx P E fc bl sv w) (List.replicate (n * sz) .any) arr.toList := fun arr h => ⟨by simp [h], fun j hj => by rw [List.getElem_replicate]; exact .any _⟩
          have go : ∀ arr : Array Value, arr.size = n * sz → ∃ us : Array Value, Instr.fill (fun i => some (i * sz, sz)) arr qs.toList = some us ∧ Reps (st.cx P E fc bl sv w) cs us.toList := by
            intro arr ha
            have := fillA_ok (c := st.cx P E fc bl sv w) (place := fun i => some (i * sz, sz)) _ qs.toList _ cs arr.toList hf' (init arr ha) (by rw [hl]; simp) (fun j p q h1 h2 => by
              simp only [List.getElem?_map, Option.map_eq_some_iff] at h1
              obtain ⟨p0, h1, rfl⟩ := h1
              obtain ⟨hq1, hq2⟩ := hp j p0 q h1 h2
              exact ⟨by rw [hq1], hq2⟩)
            simpa using this
          have hfl : ∀ (ps : List (Nat × Nat × AV G)) (c0 c1 : List (AV G)), fillA c0 ps = some c1 → c1.length = c0.length := by
            intro ps
            induction ps with
            | nil => intro c0 c1 h; simp only [fillA, Option.some.injEq] at h; rw [h]
            | cons p ps ih =>
              intro c0 c1 h
              obtain ⟨o, s, v⟩ := p
              simp only [fillA] at h
              split at h
              · rename_i h1 h2 h3
                rw [ih _ _ h]
                have h1' := Nat.eq_of_beq_eq_true h1
                have h2' := Nat.le_of_ble_eq_true h2
                simp only [splice, List.length_append, List.length_take, List.length_drop]
                omega
              · cases h
          have hcl : cs.length = n * sz := by rw [hfl _ _ _ hf']; simp
          obtain ⟨arr, harr, hrun⟩ : ∃ arr : Array Value, arr.size = n * sz ∧ ∀ us : Array Value, Instr.fill (fun i => some (i * sz, sz)) arr qs.toList = some us →
              (Instr.buildSlice t n qs).run P w = .ok (.slice (some ⟨w.heap.size, 0, none⟩) n n) (w.alloc (.cells us el)) := by
            by_cases h0 : n * sz = 0
            · refine ⟨(Array.range 0).map ((#[] : Array Value)[· % (#[] : Array Value).size]!), by simp [h0], fun us hus => ?_⟩
              simp only [Instr.buildSlice, Sem.run_bind, run_underlying hu, Result.andThen_ok, run_sizeOf? hsz, h0, if_true, Sem.run_pure]
              rw [if_neg (by decide)]
              simp only [Sem.run_pure, Result.andThen_ok, hus, newRow, newObj, Sem.run_bind]
              rfl
            · have hzv : (zeroValue el).run P w = .ok z w := by simp [zeroValue, typeInfo, hi, hz]
              refine ⟨(Array.range (n * sz)).map (z.cells[· % z.cells.size]!), by simp, fun us hus => ?_⟩
              simp only [Instr.buildSlice, Sem.run_bind, run_underlying hu, Result.andThen_ok, run_sizeOf? hsz]
              rw [if_neg (by simp; omega)]
              simp only [Sem.run_pure, Result.andThen_ok, if_neg h0, Sem.run_bind, hzv, hus, newRow, newObj]
              rfl
          obtain ⟨us, hus, hru⟩ := go arr harr
          have hcr := decAll_ok hE (c := st.cx P E fc bl sv w) (chunks sz n cs) xs (chunks sz n us.toList) hd (by simp [chunks_len]) (chunks_reps sz n cs us.toList hru)
          rw [chunks_flat sz n us.toList (by rw [hru.1]; exact hcl)] at hcr
          refine ⟨_, _, hrun us hus, ?_⟩
          have := out_newrow (n := n) hE hR.m hf hsz (by rw [hcr.2, chunks_len]) (by simp only [maxLen]; have := Nat.le_mul_of_pos_right n (show 0 < sz by omega); omega) hcr.1
          simpa using this
        · cases hq
      · cases hq
    · cases hq
  · cases hq
end
end Go.Proofs.Ytgjglkogengmbaa.Ev
