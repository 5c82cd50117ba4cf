/- Rows that grow; lengths, least and greatest. -/
import Derived.Test.YthlnocpbdhcnlaaEvI
set_option linter.unusedVariables false
set_option linter.unusedSimpArgs false
namespace Go.Proofs.Ythlnocpbdhcnlaa.Ev
open Go Go.RowKit
variable {G : Nat → Type}
section
variable {P : Program} {E : Env G} {C : Oracle G} {fc : FC} {bl : Nat → Nat} {sv : Nat → Value} {st : St G} {a : Act} {w : World}

/-- What a slice is, that is told as elements. -/
def Holds (c : Cx G) (el : Nat) (v : Value) (ys : List (G el)) (news : List Value) : Prop :=
  Reps c (ys.flatMap (c.E.enc el)) news ∧ ((∃ ad cap, v = .slice (some ad) ys.length cap ∧ ∀ j u, news[j]? = some u → c.w.cell? (ad.add j) = some u) ∨ (∃ cap, v = .slice none 0 cap ∧ ys = []))

theorem elems_inv0 (hE : EnvOk P E) (hR : Rel P E fc bl sv st a w) {el : Nat} {x : AV G} {v : Value} {k : List (G el) → Q G (Eff G)} (hn : ∀ e ys, x ≠ .rosn e ys) (hx : Rep (st.cx P E fc bl sv w) x v) {e : Eff G} {l : List Nat} (hq : (elemsQ el x k).trace st.blk = some (e, l)) :
    ∃ ys news l', (k ys).trace st.blk = some (e, l') ∧ Holds (st.cx P E fc bl sv w) el v ys news := by
  unfold elemsQ at hq
  split at hq
  · obtain rfl := hx.nilsl_inv
    exact ⟨[], [], l, hq, Reps.nil _, .inr ⟨0, rfl, rfl⟩⟩
  · rename_i e0 ys
    split at hq
    · rename_i h
      obtain rfl := Nat.eq_of_beq_eq_true h
      cases hx with
      | ros0 e0 A cap hA =>
        refine ⟨_, [], l, hq, Reps.nil _, ?_⟩
        cases A with
        | none => exact .inr ⟨cap, rfl, rfl⟩
        | some ad => exact .inl ⟨ad, cap, rfl, by simp⟩
      | ros e0 xs b off cap sz vs hsz hb ho hc hl hr =>
        refine ⟨_, ((List.range ys.length).map fun i => (List.range sz).map fun j => vs i j).flatten, l, hq, ?_, .inl ⟨_, cap, rfl, ?_⟩⟩
        · have : ∀ (n : Nat) (hn : n ≤ ys.length), Reps (st.cx P E fc bl sv w) ((ys.take n).flatMap ((st.cx P E fc bl sv w).E.enc e0)) ((List.range n).map fun i => (List.range sz).map fun j => vs i j).flatten := by
            intro n
            induction n with
            | zero => intro _; exact Reps.nil _
            | succ n ih =>
              intro hn
              have hlt : n < ys.length := hn
              rw [List.take_succ_eq_append_getElem hlt, List.range_succ]
              simp only [List.flatMap_append, List.map_append, List.flatten_append, List.flatMap_cons, List.flatMap_nil, List.append_nil, List.map_cons, List.map_nil, List.flatten_cons, List.flatten_nil]
              refine (ih (by omega)).append ⟨?_, fun j hj => ?_⟩
              · simp; exact (hl n hlt).symm
              · have hj' : j < sz := by have := hl n hlt; omega
                have := hr n hlt j hj
                simpa [List.getD, hj'] using this
          have := this ys.length (Nat.le_refl _)
          simpa using this
        · intro j u hj
          rw [add_plain]
          have hjl := (List.getElem?_eq_some_iff.1 hj).1
          have hflat : ∀ (n : Nat), (((List.range n).map fun i => (List.range sz).map fun j => vs i j).flatten).length = n * sz := by
            intro n
            induction n with
            | zero => simp
            | succ n ih => rw [List.range_succ]; simp only [List.map_append, List.flatten_append, List.length_append, ih, List.map_cons, List.map_nil, List.flatten_cons, List.flatten_nil, List.append_nil, List.length_map, List.length_range, Nat.succ_mul]
          have hget : ∀ (n i j : Nat), i < n → j < sz → (((List.range n).map fun i => (List.range sz).map fun j => vs i j).flatten)[i * sz + j]? = some (vs i j) := by
            intro n
            induction n with
            | zero => intro i j h; omega
            | succ n ih =>
              intro i j hi hj
              rw [List.range_succ]
              simp only [List.map_append, List.flatten_append, List.map_cons, List.map_nil, List.flatten_cons, List.flatten_nil, List.append_nil]
              by_cases c : i < n
              · have : i * sz + j < n * sz := by have := Nat.mul_le_mul_right sz c; rw [Nat.succ_mul] at this; omega
                rw [List.getElem?_append_left (by rw [hflat]; exact this)]
                exact ih i j c hj
              · have : i = n := by omega
                subst this
                rw [List.getElem?_append_right (by rw [hflat]; omega), hflat]
                simp [hj]
          rw [hflat] at hjl
          have hsp : 0 < sz := by
            rcases Nat.eq_zero_or_pos sz with h | h
            · subst h; simp at hjl
            · exact h
          have hd := Nat.div_add_mod j sz
          have hm := Nat.mod_lt j hsp
          have hdl : j / sz < ys.length := (Nat.div_lt_iff_lt_mul hsp).2 hjl
          have h1 := hget ys.length (j / sz) (j % sz) hdl hm
          rw [Nat.mul_comm, hd] at h1
          rw [h1] at hj
          have h2 := hc (j / sz) hdl (j % sz) hm
          rw [← Option.some.inj hj, ← h2]
          congr 2
          rw [Nat.add_assoc, Nat.mul_comm, hd]
    · cases hq
  · rename_i e1 ys1
    exact absurd rfl (hn e1 ys1)
  · rename_i id
    have hq1 := ask_inv hq
    clear hq
    obtain ⟨l', hq, -⟩ := hq1
    split at hq
    · rename_i e0 ys hb
      split at hq
      · rename_i h
        obtain rfl := Nat.eq_of_beq_eq_true h
        obtain ⟨sz, vs, hsz, hown, hr, hl⟩ := hR.m.blks id _ hb
        refine ⟨_, vs, l', hq, hr, ?_⟩
        cases hx with
        | osl id A n cap hlv hs =>
          have hown' : w.ownsRow 0 e0 sz (sv id) ys.length vs := hown
          have hs' : sv id = .slice A n cap := hs
          rcases hown'.2 with ⟨h1, h2⟩ | ⟨g, cap', cur, h1, _, hh, r1, r2, r3, r4⟩
          · rw [hs'] at h1
            simp only [Value.slice.injEq] at h1
            obtain ⟨rfl, rfl, rfl⟩ := h1
            exact .inr ⟨0, rfl, List.eq_nil_of_length_eq_zero h2⟩
          · rw [hs'] at h1
            simp only [Value.slice.injEq] at h1
            obtain ⟨rfl, rfl, rfl⟩ := h1
            refine .inl ⟨_, cap, rfl, fun j u hj => ?_⟩
            rw [add_plain]
            show w.cell? _ = _
            rw [cell_of_row w g _ _ e0 _ hh, ← hj, ← r4, Nat.zero_add]
            have hjl := (List.getElem?_eq_some_iff.1 hj).1
            rw [hown'.1] at hjl
            rw [List.getElem?_take, if_pos hjl]; simp
      · cases hq
    · cases hq
  · cases hq

theorem elems_inv (hE : EnvOk P E) (hR : Rel P E fc bl sv st a w) {el : Nat} {x : AV G} {v : Value} {k : List (G el) → Q G (Eff G)} (hx : Rep (st.cx P E fc bl sv w) x v) {e : Eff G} {l : List Nat} (hq : (elemsQ el x k).trace st.blk = some (e, l)) :
    ∃ ys news l', (k ys).trace st.blk = some (e, l') ∧ Holds (st.cx P E fc bl sv w) el v ys news := by
  by_cases h : ∃ e ys, x = .rosn e ys
  · obtain ⟨e1, ys1, rfl⟩ := h
    exact elems_inv0 hE hR (x := .ros e1 ys1) (fun _ _ h => by cases h) hx.rosn_ros hq
  · exact elems_inv0 hE hR (fun e1 ys1 he => h ⟨e1, ys1, he⟩) hx hq

theorem append_run (hE : EnvOk P E) {t ty el bytes sz : Nat} (hu : P.underlying t = some (.slice el)) (hb : bytesOf? P el = some bytes) (hsz : sizeOf? P el = some sz) {s x : Value} {xs ys : List (G el)} {vs news : List Value} (hown : w.ownsRow 0 el sz s xs.length vs)
    {c : Cx G} (hc : c.w = w) (hcE : c.E = E) (hx : Holds c el x ys news) (hlim : (xs.length + ys.length) * bytes ≤ 140737488355328) :
    ∃ v' w', (Builtin.append_ #[t, t] ty #[s, x]).run P w = .ok v' w' ∧ w'.ownsRow 0 el sz v' (xs ++ ys).length (vs ++ news) ∧ w.grownBy w' s.ownBlock ∧ (∀ g, v'.ownBlock = some g → s.ownBlock = some g ∨ w.heap.size ≤ g) := by
  obtain ⟨i, z, hi, hz, hzs, hpos, hby, hbp⟩ := bytesOf?_inv hb
  have hsi : i.size = sz := by have := hsz; unfold sizeOf? at this; rw [hi] at this; simpa using this
  obtain ⟨hr, hx⟩ := hx
  have hl : ∀ y ∈ ys, (c.E.enc el y).length = sz := fun y _ => by rw [hcE]; exact hE.len el y sz hsz
  have hnl : news.length = ys.length * sz := by rw [hr.1]; exact flat_len _ _ _ hl
  rw [List.length_append]
  rcases hx with ⟨ad, cap, rfl, hcell⟩ | ⟨cap, rfl, rfl⟩
  · have hm : xs.length + ys.length ≤ maxLen := by
      simp only [maxLen]
      have := Nat.le_mul_of_pos_right (xs.length + ys.length) hbp
      omega
    have hone : ∀ u ∈ news, u.oneCell' = true := hr.one (by
      rw [List.all_eq_true]
      intro av hav
      obtain ⟨y, hy, hav⟩ := List.mem_flatMap.1 hav
      rw [hcE] at hav
      exact List.all_eq_true.1 (hE.one el y) av hav)
    obtain ⟨v', w', h1, h2, h3, h4, h5⟩ := run_append_own_at (P := P) w 0 t ty el i z sz bytes hu hi hz hsi hby (by rw [hzs]; exact hsi) (by omega) s xs.length vs hown ad ys.length cap news hnl (fun j u hj => by rw [← hc]; exact hcell j u hj) hone hm hlim (Nat.zero_le _)
    refine ⟨v', w', h1, h2, h3, fun g hg => ?_⟩
    rcases h5 with h5 | h5
    · exact .inl (h5 ▸ hg)
    · rw [h5] at hg; exact .inr (Nat.le_of_eq (Option.some.inj hg))
  · obtain rfl : news = [] := List.eq_nil_of_length_eq_zero (by simpa using hnl)
    refine ⟨s, w, ?_, by simpa using hown, grownBy_refl w _, fun g hg => .inl hg⟩
    have hcap : ∃ A n cp, s = .slice A n cp ∧ n ≤ cp := by
      rcases hown.2 with ⟨h1, _⟩ | ⟨g, cap', cur, h1, _, _, h2, _⟩
      · exact ⟨none, 0, 0, h1, Nat.le_refl _⟩
      · exact ⟨_, _, _, h1, h2⟩
    obtain ⟨A, n, cp, rfl, hle⟩ := hcap
    have hle' : n + 0 ≤ cp := hle
    cases A <;> simp [Builtin.append_, run_underlying hu, run_sizeOf? hsz, Builtin.lenOf, hle, Builtin.firstCells, storeCells]

theorem append_ok (hE : EnvOk P E) (hR : Rel P E fc bl sv st a w) {t u ty base : Nat} (hf : st.blk base = none) {s x : AV G} {v y : Value} (hs : Rep (st.cx P E fc bl sv w) s v) (hx : Rep (st.cx P E fc bl sv w) x y) {e : Eff G} {l : List Nat} (hq : (appendQ P t u s x base).trace st.blk = some (e, l)) :
    ∃ r w', (Builtin.append_ #[t, u] ty #[v, y]).run P w = .ok r w' ∧ Out P E fc bl sv st w e r w' := by
  unfold appendQ at hq
  split at hq
  · rename_i el hu htu
    obtain rfl := Nat.eq_of_beq_eq_true htu
    split at hq
    · rename_i bytes hb
      obtain ⟨i, z, hi, hz, hzs, hpos, hby, hbp⟩ := bytesOf?_inv hb
      have hsz : sizeOf? P el = some i.size := by unfold sizeOf?; rw [hi]; rfl
      split at hq
      · obtain rfl := hs.nilsl_inv
        obtain ⟨ys, news, l', hq, hh⟩ := elems_inv hE hR hx hq
        obtain ⟨_, hc, hq⟩ := opt_inv hq
        have hlim := of_decide_eq_true (chk_inv hc)
        simp only [Q.trace, Option.some.injEq, Prod.mk.injEq] at hq
        obtain ⟨rfl, _⟩ := hq
        obtain ⟨v', w', h1, h2, h3, h4⟩ := append_run (ty := ty) (xs := []) (vs := []) hE hu hb hsz (World.ownsRow_nil w 0 el i.size) rfl rfl hh (by simpa using hlim)
        refine ⟨v', w', h1, ?_⟩
        have := out_row hR.m hf [] (by simp) hsz h2 h3 (by simp [Value.ownBlock]) h4 hh.1 (fun y _ => hE.len el y _ hsz)
        simpa using this
      · rename_i id
        have hq1 := ask_inv hq
        clear hq
        obtain ⟨l', hq, -⟩ := hq1
        split at hq
        · rename_i e0 xs hbk
          split at hq
          · rename_i h
            obtain rfl := Nat.eq_of_beq_eq_true h
            obtain ⟨ys, news, l', hq, hh⟩ := elems_inv hE hR hx hq
            obtain ⟨_, hc, hq⟩ := opt_inv hq
            have hlim := of_decide_eq_true (chk_inv hc)
            simp only [Q.trace, Option.some.injEq, Prod.mk.injEq] at hq
            obtain ⟨rfl, _⟩ := hq
            obtain ⟨sz, vs, hsz', hown, hr, hl⟩ := hR.m.blks id _ hbk
            have hszz : sz = i.size := by
              have hh1 : sizeOf? P e0 = some sz := hsz'
              rw [hsz] at hh1; exact (Option.some.inj hh1).symm
            subst hszz
            have hsv : v = sv id := by
              cases hs with
              | osl id A n cap hlv hs' => exact hs'.symm
            subst hsv
            have hown' : w.ownsRow 0 e0 i.size (sv id) xs.length vs := hown
            obtain ⟨v', w', h1, h2, h3, h4⟩ := append_run (ty := ty) hE hu hb hsz hown' rfl rfl hh hlim
            refine ⟨v', w', h1, ?_⟩
            have := out_row hR.m hf [id] (by simp [hbk]) hsz h2 h3 (fun g hg => ⟨id, by simp, by unfold owns; rw [hbk]; exact hg⟩) h4 (by
              rw [List.flatMap_append]; exact Reps.append hr hh.1) (fun y _ => hE.len e0 y _ hsz)
            simpa using this
          · cases hq
        · cases hq
      · cases hq
    · cases hq
  · cases hq

theorem len_ok (hR : Rel P E fc bl sv st a w) {t ty : Nat} {x : AV G} {v : Value} (hx : Rep (st.cx P E fc bl sv w) x v) {e : Eff G} {l : List Nat} (hq : (lenQ P t x).trace st.blk = some (e, l)) :
    ∃ r, (Builtin.len_ #[t] ty #[v]).run P w = .ok r w ∧ Out P E fc bl sv st w e r w := by
  unfold lenQ at hq
  split at hq
  · rename_i el e0 xs hu
    refine ok_of (m := hR.m) hq ?_ (.int _ _)
    cases hx <;> simp [Builtin.len_, run_underlying hu, goInt]
  · rename_i el id hu
    have hq1 := ask_inv hq
    clear hq
    obtain ⟨l', hq, -⟩ := hq1
    split at hq
    · rename_i e0 xs hb
      obtain ⟨sz, vs, hsz, hown, hr, hl⟩ := hR.m.blks id _ hb
      refine ok_of (m := hR.m) hq ?_ (.int _ _)
      cases hx with
      | osl id A n cap hlv hs =>
        have hown' : w.ownsRow 0 e0 sz (sv id) xs.length vs := hown
        have hs' : sv id = .slice A n cap := hs
        have hn : n = xs.length := by
          rcases hown'.2 with ⟨h1, h2⟩ | ⟨g, cap', cur, h1, _⟩
          · rw [hs'] at h1; simp only [Value.slice.injEq] at h1; omega
          · rw [hs'] at h1; simp only [Value.slice.injEq] at h1; exact h1.2.1
        simp [Builtin.len_, run_underlying hu, goInt, hn]
    · cases hq
  · rename_i el hu
    obtain rfl := hx.nilsl_inv
    exact ok_of (m := hR.m) hq (by simp [Builtin.len_, run_underlying hu, goInt]) (.int _ _)
  · rename_i el e0 xs hu
    refine ok_of (m := hR.m) hq ?_ (.int _ _)
    cases hx <;> simp [Builtin.len_, run_underlying hu, goInt]
  · rename_i s hu
    obtain rfl := hx.str_inv
    exact ok_of (m := hR.m) hq (by simp [Builtin.len_, run_underlying hu, goInt]) (.int _ _)
  · rename_i n el hu
    exact ok_of (m := hR.m) hq (by simp [Builtin.len_, run_underlying hu, goInt]) (.int _ _)
  · cases hq

theorem fold_min : ∀ (r : List (AV G)) (vs : List Value) (c : Cx G) (k : IntKind) (x : Int) (res : AV G), foldI false k x r = some res → Reps c r vs → ∃ v, (vs.foldlM Builtin.min2 (.int k x)).run P w = .ok v w ∧ Rep c res v := by
  intro r
  induction r with
  | nil =>
    intro vs c k x res h hr
    obtain rfl := hr.nil_inv
    simp only [foldI, Option.some.injEq] at h
    subst h
    exact ⟨_, by simp, .int _ _⟩
  | cons y r ih =>
    intro vs c k x res h hr
    obtain ⟨v, vs', rfl, h1, h2⟩ := hr.cons_inv
    cases y with
    | int k' y =>
      obtain rfl := h1.int_inv
      simp only [foldI] at h
      split at h
      · obtain ⟨v, h3, h4⟩ := ih vs' c k _ res h h2
        exact ⟨v, by simpa [Builtin.min2] using h3, h4⟩
      · cases h
    | _ => simp [foldI] at h
theorem fold_max : ∀ (r : List (AV G)) (vs : List Value) (c : Cx G) (k : IntKind) (x : Int) (res : AV G), foldI true k x r = some res → Reps c r vs → ∃ v, (vs.foldlM Builtin.max2 (.int k x)).run P w = .ok v w ∧ Rep c res v := by
  intro r
  induction r with
  | nil =>
    intro vs c k x res h hr
    obtain rfl := hr.nil_inv
    simp only [foldI, Option.some.injEq] at h
    subst h
    exact ⟨_, by simp, .int _ _⟩
  | cons y r ih =>
    intro vs c k x res h hr
    obtain ⟨v, vs', rfl, h1, h2⟩ := hr.cons_inv
    cases y with
    | int k' y =>
      obtain rfl := h1.int_inv
      simp only [foldI] at h
      split at h
      · obtain ⟨v, h3, h4⟩ := ih vs' c k _ res h h2
        exact ⟨v, by simpa [Builtin.max2] using h3, h4⟩
      · cases h
    | _ => simp [foldI] at h

theorem madeCells_flat (z : Array Value) : ∀ k, (madeCells z (k * z.size)).toList = (List.replicate k z.toList).flatten := by
  intro k
  induction k with
  | zero => simp [madeCells]
  | succ k ih =>
    rw [List.replicate_succ', List.flatten_append, ← ih]
    simp only [madeCells, Array.toList_map, Array.toList_range, Nat.succ_mul, List.flatten_cons, List.flatten_nil, List.append_nil]
    rw [List.range_add, List.map_append]
    congr 1
    apply List.ext_getElem?
    intro j
    simp only [List.map_map, List.getElem?_map]
    by_cases hj : j < z.size
    · simp [hj, Nat.mul_add_mod_self_right, Nat.mod_eq_of_lt hj, getElem!_def]
    · simp [hj]
theorem made_reps (hE : EnvOk P E) {el : Nat} {z : G el} {i : TypeInfo} {zv : Value} (hz : E.zero el = some z) (hi : P.info? el = some i) (hzv : i.zero = some zv) {c : Cx G} : ∀ k, Reps c ((List.replicate k z).flatMap (E.enc el)) (List.replicate k zv.cells.toList).flatten := by
  intro k
  induction k with
  | zero => exact Reps.nil c
  | succ k ih =>
    rw [List.replicate_succ, List.replicate_succ]
    simp only [List.flatMap_cons, List.flatten_cons]
    exact (hE.zero el z i zv hz hi hzv c).append ih

theorem make_ok (hE : EnvOk P E) (hR : Rel P E fc bl sv st a w) {t base : Nat} (hf : st.blk base = none) {n m : AV G} {v u : Value} (hn : Rep (st.cx P E fc bl sv w) n v) (hm : Rep (st.cx P E fc bl sv w) m u) {e : Eff G} {l : List Nat} (hq : (makeQ P E t n m base).trace st.blk = some (e, l)) :
    ∃ r w', (Instr.makeSlice t v u).run P w = .ok r w' ∧ Out P E fc bl sv st w e r w' := by
  unfold makeQ at hq
  split at hq
  · rename_i el n m hu
    obtain rfl := hn.int_inv
    obtain rfl := hm.int_inv
    split at hq
    · rename_i bytes z hb hz
      obtain ⟨_, hc, hq⟩ := opt_inv hq
      obtain ⟨h0, hnm, hlim, h63⟩ := of_decide_eq_true (chk_inv hc)
      simp only [Q.trace, Option.some.injEq, Prod.mk.injEq] at hq
      obtain ⟨rfl, _⟩ := hq
      subst hnm
      obtain ⟨i, zv, hi, hzv, hzs, hpos, hby, hbp⟩ := bytesOf?_inv hb
      have hsz : sizeOf? P el = some i.size := by unfold sizeOf?; rw [hi]; rfl
      obtain ⟨k, rfl⟩ := Int.eq_ofNat_of_zero_le h0
      have hlim' : k * bytes ≤ 140737488355328 := by
        have h9 : ((k * bytes : Nat) : Int) ≤ 140737488355328 := by rw [Int.natCast_mul]; exact hlim
        omega
      obtain ⟨w', h1, h2, h3⟩ := run_make_full (P := P) w 0 t el i zv i.size hu hi hzv rfl .i64 .i64 k (by rw [hby, Nat.mul_comm]; omega) (by unfold maxLen; omega) (Nat.zero_le _)
      refine ⟨_, w', h1, ?_⟩
      have hcell : Reps (st.cx P E fc bl sv w) ((List.replicate k z).flatMap (E.enc el)) (madeCells zv.cells (k * i.size)).toList := by
        rw [← hzs, madeCells_flat]
        exact made_reps hE hz hi hzv k
      have h2' : w'.ownsRow 0 el i.size (.slice (some ⟨w.heap.size, 0, none⟩) k k) (List.replicate (k : Int).toNat z).length (madeCells zv.cells (k * i.size)).toList := by simpa using h2
      have := out_row hR.m hf [] (by simp) hsz h2' h3 (by simp) (fun g hg => .inr (by simp only [Value.ownBlock, Option.some.injEq] at hg; omega)) (by simpa using hcell) (fun y _ => hE.len el y _ hsz)
      simpa using this
    · cases hq
  · cases hq
end
end Go.Proofs.Ythlnocpbdhcnlaa.Ev
