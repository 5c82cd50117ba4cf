/- Chapter 31: the clock of a race. -/
import Derived.Test.YtdjjinfpfjoniaaMGateLaw
set_option linter.unusedVariables false
set_option linter.unusedSimpArgs false
namespace Go.Proofs.Ytdjjinfpfjoniaa.Ev
open Go

set_option maxRecDepth 100000 in
theorem awake31 : F19_0 () = some true := by kernel_rfl
abbrev Ent : Type := Int × Int × Int × Int
abbrev StT : Type := A18_0
abbrev TrT : Type := A17_0
abbrev RcT : Type := Int × Int × Int × Int × Int × Int × List Int × List Int × (List (Int × Int × Bool)) × (List (Int × Int)) × (List (List (Int × Int))) × (List Gt) × Int × Int × Int × Int × StT
def jn (t : TrT) (s : StT) : RcT := (t.1, (t.2.1, (t.2.2.1, (t.2.2.2.1, (t.2.2.2.2.1, (t.2.2.2.2.2.1, (t.2.2.2.2.2.2.1, (t.2.2.2.2.2.2.2.1, (t.2.2.2.2.2.2.2.2.1, (t.2.2.2.2.2.2.2.2.2.1, (t.2.2.2.2.2.2.2.2.2.2.1, (t.2.2.2.2.2.2.2.2.2.2.2.1, (t.2.2.2.2.2.2.2.2.2.2.2.2.1, (t.2.2.2.2.2.2.2.2.2.2.2.2.2.1, (t.2.2.2.2.2.2.2.2.2.2.2.2.2.2.1, (t.2.2.2.2.2.2.2.2.2.2.2.2.2.2.2, s))))))))))))))))
abbrev gts (t : TrT) : List Gt := t.2.2.2.2.2.2.2.2.2.2.2.1

theorem note_eq (e : Ent) (out : List Ent) (h : out.length ≤ 1000) : F31_0 (e, out) = some (out ++ [e]) := by
  unfold F31_0
  simp only [List.length_cons, List.length_nil, decide_eq_true (show (out.length + (0 + 1)) * 32 ≤ 140737488355328 by omega)]
  rfl
theorem spoil_E (t : TrT) (g at' : Int) (out : List Ent) (nx dn : Int) (rn vl : Bool) (st bg sc ay tk : Int) (en : Bool) :
  F50_0 ((g, at'), (jn t (nx, (dn, (rn, (vl, (st, (bg, (sc, (ay, (tk, en))))))))), out)) =
  bif rn then bif vl then (F31_0 ((5, (g, (at', 0))), out)).bind fun o => some (jn t (nx, (dn, (rn, (false, (st, (bg, (sc, (ay, (tk, en))))))))), o)
    else some (jn t (nx, (dn, (rn, (vl, (st, (bg, (sc, (ay, (tk, en))))))))), out) else some (jn t (nx, (dn, (rn, (vl, (st, (bg, (sc, (ay, (tk, en))))))))), out) := rfl
theorem line_E (t : TrT) (at' : Int) (out : List Ent) (nx dn : Int) (rn vl : Bool) (st bg sc ay tk : Int) (en : Bool) :
  F51_0 (at', (jn t (nx, (dn, (rn, (vl, (st, (bg, (sc, (ay, (tk, en))))))))), out)) =
  bif rn then (F31_0 ((3, (0, (at', IntKind.wrap .i64 (at' - bg)))), out)).bind fun o =>
      bif decide (IntKind.wrap .i64 (dn + 1) > 0) then bif decide (IntKind.wrap .i64 (dn + 1) ≥ t.2.2.2.2.2.2.2.2.2.2.2.2.2.2.2) then
        (F31_0 ((6, (0, (at', IntKind.wrap .i64 (at' - st)))), o)).bind fun o' => some (jn t (nx, (IntKind.wrap .i64 (dn + 1), (rn, (true, (st, (at', (at', (0, (tk, true))))))))), o')
        else some (jn t (nx, (IntKind.wrap .i64 (dn + 1), (rn, (true, (st, (at', (at', (0, (tk, en))))))))), o)
      else some (jn t (nx, (IntKind.wrap .i64 (dn + 1), (rn, (true, (st, (at', (at', (0, (tk, en))))))))), o)
  else bif decide (dn > 0) then bif decide (dn ≥ t.2.2.2.2.2.2.2.2.2.2.2.2.2.2.2) then
        (F31_0 ((6, (0, (at', IntKind.wrap .i64 (at' - at')))), out)).bind fun o' => some (jn t (nx, (dn, (true, (true, (at', (at', (at', (0, (tk, true))))))))), o')
        else some (jn t (nx, (dn, (true, (true, (at', (at', (at', (0, (tk, en))))))))), out)
      else some (jn t (nx, (dn, (true, (true, (at', (at', (at', (0, (tk, en))))))))), out) := rfl
theorem pass_E (t : TrT) (g part : Int) (wr : Bool) (at' : Int) (out : List Ent) (nx dn : Int) (rn vl : Bool) (st bg sc ay tk : Int) (en : Bool) :
  F32_0 (((g, (part, wr)), at'), (jn t (nx, (dn, (rn, (vl, (st, (bg, (sc, (ay, (tk, en))))))))), out)) =
  bif wr then (F31_0 ((4, (g, (at', 0))), out)).bind fun o => (F50_0 ((g, at'), (jn t (nx, (dn, (rn, (vl, (st, (bg, (sc, (ay, (tk, en))))))))), o))).bind fun r => some r
  else (F31_0 ((1, (g, (at', 0))), out)).bind fun o =>
    bif rn then (rdx (gts t) g).bind fun x => bif x.2.2.2.2 then
        (F31_0 ((2, (g, (at', IntKind.wrap .i64 (at' - sc)))), o)).bind fun o' =>
        bif (g == 0) then (F51_0 (at', (jn t (nx, (dn, (rn, (vl, (st, (bg, (at', (ay, (tk, en))))))))), o'))).bind fun r => some r
        else some (jn t (nx, (dn, (rn, (vl, (st, (bg, (at', (ay, (tk, en))))))))), o')
      else bif (g == 0) then (F51_0 (at', (jn t (nx, (dn, (rn, (vl, (st, (bg, (sc, (ay, (tk, en))))))))), o))).bind fun r => some r
        else some (jn t (nx, (dn, (rn, (vl, (st, (bg, (sc, (ay, (tk, en))))))))), o)
    else bif (g == 0) then (F51_0 (at', (jn t (nx, (dn, (rn, (vl, (st, (bg, (sc, (ay, (tk, en))))))))), o))).bind fun r => some r
        else some (jn t (nx, (dn, (rn, (vl, (st, (bg, (sc, (ay, (tk, en))))))))), o) := rfl
theorem stray_E (t : TrT) (off : Bool) (hi : Int) (out : List Ent) (nx dn : Int) (rn vl : Bool) (st bg sc ay tk : Int) (en : Bool) :
  F33_0 ((off, hi), (jn t (nx, (dn, (rn, (vl, (st, (bg, (sc, (ay, (tk, en))))))))), out)) =
  bif !rn then some (jn t (nx, (dn, (rn, (vl, (st, (bg, (sc, (ay, (tk, en))))))))), out)
  else bif en then some (jn t (nx, (dn, (rn, (vl, (st, (bg, (sc, (ay, (tk, en))))))))), out)
  else bif !off then bif decide (0 > Int.fdiv t.1 (2 ^ 1)) then
      (F50_0 ((0, hi), (jn t (nx, (dn, (rn, (vl, (st, (bg, (sc, (0, (tk, en))))))))), out))).bind fun r => some r
      else some (jn t (nx, (dn, (rn, (vl, (st, (bg, (sc, (0, (tk, en))))))))), out)
  else bif decide (IntKind.wrap .i64 (ay + 1) > Int.fdiv t.1 (2 ^ 1)) then
      (F50_0 ((0, hi), (jn t (nx, (dn, (rn, (vl, (st, (bg, (sc, (IntKind.wrap .i64 (ay + 1), (tk, en))))))))), out))).bind fun r => some r
      else some (jn t (nx, (dn, (rn, (vl, (st, (bg, (sc, (IntKind.wrap .i64 (ay + 1), (tk, en))))))))), out) := rfl

theorem ne36 : ¬ ((3 : Int) = 6) := by decide
theorem ne31 : ¬ ((3 : Int) = 1) := by decide
theorem ne61 : ¬ ((6 : Int) = 1) := by decide
theorem ne63 : ¬ ((6 : Int) = 3) := by decide
/- What the laws ask of a row of events, folded. -/
structure Fd where
  sum : Int
  last : Int
  want : Int
  prev : Option Int
def fdStep (n : Int) (f : Fd) (e : Ent) : Fd := ⟨if e.1 = 3 then f.sum + e.2.2.2 else f.sum, e.2.2.1, if e.1 = 1 then Int.tmod (f.want + 1) n else f.want, some e.2.1⟩
def fdOk (lo hi : Int) (f : Fd) (e : Ent) : Prop := f.last ≤ e.2.2.1 ∧ lo ≤ e.2.2.1 ∧ e.2.2.1 ≤ hi ∧ 0 ≤ e.2.2.2 ∧ (e.1 = 6 → e.2.2.2 = f.sum) ∧ (e.1 = 1 → e.2.1 = f.want) ∧ (e.1 = 3 → f.prev = some 0 ∧ 0 ≤ f.sum + e.2.2.2 ∧ f.sum + e.2.2.2 ≤ hi)
def okF (lo hi n : Int) : List Ent → Fd → Prop
  | [], _ => True
  | e :: l, f => fdOk lo hi f e ∧ okF lo hi n l (fdStep n f e)
def fdF (n : Int) (l : List Ent) (f : Fd) : Fd := l.foldl (fdStep n) f
theorem okF_snoc (lo hi n : Int) : ∀ (l : List Ent) (f : Fd) (e : Ent), okF lo hi n l f → fdOk lo hi (fdF n l f) e → okF lo hi n (l ++ [e]) f := by
  intro l
  induction l with
  | nil => intro f e _ h; exact ⟨h, trivial⟩
  | cons a l ih => intro f e h1 h2; exact ⟨h1.1, ih _ e h1.2 h2⟩
theorem fdF_snoc (n : Int) (l : List Ent) (f : Fd) (e : Ent) : fdF n (l ++ [e]) f = fdStep n (fdF n l f) e := by
  unfold fdF; rw [List.foldl_append]; rfl

/- What holds of a race amid a tick. -/
structure Mid (lo hi n : Int) (f0 : Fd) (dmax : Int) (amax : Int) (want c : Int) (m : Nat) (dn : Int) (rn vl : Bool) (st bg sc ay : Int) (en : Bool) (out : List Ent) : Prop where
  len : out.length ≤ m
  dn0 : 0 ≤ dn ∧ dn ≤ dmax
  as0 : 0 ≤ ay ∧ ay ≤ amax
  run : rn = true → 0 ≤ st ∧ st ≤ bg ∧ bg ≤ sc ∧ sc ≤ c
  still : rn = false → dn = 0 ∧ vl = false ∧ st = 0 ∧ bg = 0 ∧ sc = 0 ∧ ay = 0 ∧ en = false
  lc : lo ≤ c ∧ c ≤ hi
  ok : okF lo hi n out f0
  sum : (fdF n out f0).sum = bg - st
  last : (fdF n out f0).last ≤ c
  want : (fdF n out f0).want = want
  fin : ∀ e ∈ out, e.1 = 6 → en = true

theorem line_ok {lo hi n : Int} {f0 : Fd} {dmax amax want c : Int} {m : Nat} {dn : Int} {rn vl : Bool} {st bg sc ay : Int} {en : Bool} {out : List Ent} (t : TrT) (nx tk : Int)
    (h : Mid lo hi n f0 dmax amax want c m dn rn vl st bg sc ay en out) (hm : m ≤ 900) (hd : dmax ≤ 20000000) (hlo : 0 ≤ lo) (hhi : hi ≤ 144115188075855872) (hp : (fdF n out f0).prev = some 0) :
    ∃ dn' rn' vl' st' bg' sc' ay' en' out', F51_0 (c, (jn t (nx, (dn, (rn, (vl, (st, (bg, (sc, (ay, (tk, en))))))))), out)) = some (jn t (nx, (dn', (rn', (vl', (st', (bg', (sc', (ay', (tk, en'))))))))), out') ∧
      Mid lo hi n f0 (dmax + 1) amax want c (m + 2) dn' rn' vl' st' bg' sc' ay' en' out' := by
  have ⟨h1, h2⟩ := h.lc
  have ⟨d1, d2⟩ := h.dn0
  have ⟨a1, a2⟩ := h.as0
  rw [line_E]
  cases hr : rn with
  | true =>
    obtain ⟨r1, r2, r3, r4⟩ := h.run hr
    have e1 : IntKind.wrap .i64 (c - bg) = c - bg := w64 (by omega)
    have e2 : IntKind.wrap .i64 (dn + 1) = dn + 1 := w64 (by omega)
    have e3 : IntKind.wrap .i64 (c - st) = c - st := w64 (by omega)
    have hl := h.len
    have ok1 : okF lo hi n (out ++ [((3 : Int), ((0 : Int), (c, c - bg)))]) f0 := okF_snoc _ _ _ _ _ _ h.ok ⟨h.last, h1, h2, by show 0 ≤ c - bg; omega, fun hh => absurd hh ne36, fun hh => absurd hh ne31, fun _ => ⟨hp, by rw [h.sum]; show 0 ≤ bg - st + (c - bg); omega, by rw [h.sum]; show bg - st + (c - bg) ≤ hi; omega⟩⟩
    have f1 := fdF_snoc n out f0 ((3 : Int), ((0 : Int), (c, c - bg)))
    have s1 : (fdF n (out ++ [((3 : Int), ((0 : Int), (c, c - bg)))]) f0).sum = c - st := by
      rw [f1]; show (fdF n out f0).sum + (c - bg) = c - st; rw [h.sum]; omega
    have l1 : (fdF n (out ++ [((3 : Int), ((0 : Int), (c, c - bg)))]) f0).last = c := by rw [f1]; rfl
    have w1 : (fdF n (out ++ [((3 : Int), ((0 : Int), (c, c - bg)))]) f0).want = want := by rw [f1]; exact h.want
    have len1 : (out ++ [((3 : Int), ((0 : Int), (c, c - bg)))]).length ≤ m + 1 := by simp; omega
    have fin1 : ∀ e ∈ out ++ [((3 : Int), ((0 : Int), (c, c - bg)))], e.1 = 6 → en = true := by
      intro e he h6
      rcases List.mem_append.1 he with he | he
      · exact h.fin e he h6
      · rw [List.mem_singleton.1 he] at h6; exact absurd h6 ne36
    rw [cond_true, note_eq _ _ (by omega), e1, e2, e3, decide_eq_true (show dn + 1 > 0 by omega)]
    simp only [Option.bind_some, cond_true]
    by_cases hf : dn + 1 ≥ t.2.2.2.2.2.2.2.2.2.2.2.2.2.2.2
    · rw [decide_eq_true hf, cond_true, note_eq _ _ (by simp; omega)]
      refine ⟨_, _, _, _, _, _, _, _, _, rfl, ⟨by simp; omega, ⟨by omega, by omega⟩, ⟨by omega, by omega⟩, fun _ => ⟨r1, by omega, by omega, by omega⟩, fun hh => absurd hh (by simp), h.lc, ?_, ?_, ?_, ?_, fun _ _ _ => rfl⟩⟩
      · exact okF_snoc _ _ _ _ _ _ ok1 ⟨by rw [l1]; exact Int.le_refl _, h1, h2, by show 0 ≤ c - st; omega, fun _ => s1.symm, fun hh => absurd hh ne61, fun hh => absurd hh ne63⟩
      · rw [fdF_snoc]; exact s1
      · rw [fdF_snoc]; exact Int.le_refl _
      · rw [fdF_snoc]; exact w1
    · rw [decide_eq_false hf, cond_false]
      exact ⟨_, _, _, _, _, _, _, _, _, rfl, ⟨by omega, ⟨by omega, by omega⟩, ⟨by omega, by omega⟩, fun _ => ⟨r1, by omega, by omega, by omega⟩, fun hh => absurd hh (by simp), h.lc, ok1, s1, by rw [l1]; exact Int.le_refl _, w1, fin1⟩⟩
  | false =>
    obtain ⟨z1, z2, z3, z4, z5, z6, z7⟩ := h.still hr
    rw [cond_false, decide_eq_false (show ¬ dn > 0 by omega), cond_false]
    refine ⟨_, _, _, _, _, _, _, _, _, rfl, ⟨by have := h.len; omega, ⟨d1, by omega⟩, ⟨by omega, by omega⟩, fun _ => ⟨by omega, by omega, by omega, by omega⟩, fun hh => absurd hh (by simp), h.lc, h.ok, ?_, h.last, h.want, h.fin⟩⟩
    rw [h.sum]; omega

theorem Mid.more {lo hi n : Int} {f0 : Fd} {dmax amax want c : Int} {m : Nat} {dn : Int} {rn vl : Bool} {st bg sc ay : Int} {en : Bool} {out : List Ent}
    (h : Mid lo hi n f0 dmax amax want c m dn rn vl st bg sc ay en out) (k : Nat) (x : Int) (hx : 0 ≤ x) : Mid lo hi n f0 (dmax + x) amax want c (m + k) dn rn vl st bg sc ay en out :=
  ⟨by have := h.len; omega, ⟨h.dn0.1, by have := h.dn0.2; omega⟩, h.as0, h.run, h.still, h.lc, h.ok, h.sum, h.last, h.want, h.fin⟩
theorem Mid.later {lo hi n : Int} {f0 : Fd} {dmax amax want c : Int} {m : Nat} {dn : Int} {rn vl : Bool} {st bg sc ay : Int} {en : Bool} {out : List Ent}
    (h : Mid lo hi n f0 dmax amax want c m dn rn vl st bg sc ay en out) (c' : Int) (h1 : c ≤ c') (h2 : c' ≤ hi) : Mid lo hi n f0 dmax amax want c' m dn rn vl st bg sc ay en out :=
  ⟨h.len, h.dn0, h.as0, fun hr => by have := h.run hr; omega, h.still, ⟨by have := h.lc; omega, h2⟩, h.ok, h.sum, by have := h.last; omega, h.want, h.fin⟩
theorem Mid.snoc {lo hi n : Int} {f0 : Fd} {dmax amax want c : Int} {m : Nat} {dn : Int} {rn vl : Bool} {st bg sc ay : Int} {en : Bool} {out : List Ent}
    (h : Mid lo hi n f0 dmax amax want c m dn rn vl st bg sc ay en out) (k g sp : Int) (hk : k ≠ 3 ∧ k ≠ 6) (hs : 0 ≤ sp) (h1 : k = 1 → g = want) :
    Mid lo hi n f0 dmax amax (if k = 1 then Int.tmod (want + 1) n else want) c (m + 1) dn rn vl st bg sc ay en (out ++ [(k, (g, (c, sp)))]) ∧ (fdF n (out ++ [(k, (g, (c, sp)))]) f0).prev = some g := by
  have f1 := fdF_snoc n out f0 (k, (g, (c, sp)))
  refine ⟨⟨by have := h.len; simp; omega, h.dn0, h.as0, h.run, h.still, h.lc, ?_, ?_, ?_, ?_, ?_⟩, by rw [f1]; rfl⟩
  · exact okF_snoc _ _ _ _ _ _ h.ok ⟨h.last, h.lc.1, h.lc.2, hs, fun hh => absurd hh hk.2, fun hh => by rw [h.want]; exact h1 hh, fun hh => absurd hh hk.1⟩
  · rw [f1]; show (if k = 3 then _ else _) = _; rw [if_neg hk.1]; exact h.sum
  · rw [f1]; exact Int.le_refl _
  · rw [f1]; show (if k = 1 then Int.tmod ((fdF n out f0).want + 1) n else (fdF n out f0).want) = _; rw [h.want]
  · intro e he h6
    rcases List.mem_append.1 he with he | he
    · exact h.fin e he h6
    · rw [List.mem_singleton.1 he] at h6; exact absurd h6 hk.2
theorem Mid.sect {lo hi n : Int} {f0 : Fd} {dmax amax want c : Int} {m : Nat} {dn : Int} {rn vl : Bool} {st bg sc ay : Int} {en : Bool} {out : List Ent}
    (h : Mid lo hi n f0 dmax amax want c m dn rn vl st bg sc ay en out) (hr : rn = true) : Mid lo hi n f0 dmax amax want c m dn rn vl st bg c ay en out :=
  ⟨h.len, h.dn0, h.as0, fun _ => (by have := h.run hr; omega), fun hh => (by rw [hr] at hh; cases hh), h.lc, h.ok, h.sum, h.last, h.want, h.fin⟩
theorem spoil_ok {lo hi n : Int} {f0 : Fd} {dmax amax want c : Int} {m : Nat} {dn : Int} {rn vl : Bool} {st bg sc ay : Int} {en : Bool} {out : List Ent} (t : TrT) (nx tk g : Int)
    (h : Mid lo hi n f0 dmax amax want c m dn rn vl st bg sc ay en out) (hm : m ≤ 900) :
    ∃ vl' out', F50_0 ((g, c), (jn t (nx, (dn, (rn, (vl, (st, (bg, (sc, (ay, (tk, en))))))))), out)) = some (jn t (nx, (dn, (rn, (vl', (st, (bg, (sc, (ay, (tk, en))))))))), out') ∧
      Mid lo hi n f0 dmax amax want c (m + 1) dn rn vl' st bg sc ay en out' := by
  rw [spoil_E]
  have hsame : Mid lo hi n f0 dmax amax want c (m + 1) dn rn vl st bg sc ay en out := by have := h.more 1 0 (by decide); rwa [Int.add_zero] at this
  cases hr : rn with
  | false => exact ⟨_, _, rfl, hr ▸ hsame⟩
  | true =>
    rw [cond_true]
    cases hv : vl with
    | false => exact ⟨_, _, rfl, hr ▸ hv ▸ hsame⟩
    | true =>
      have hl := h.len
      rw [cond_true, note_eq _ _ (by omega)]
      have h' := (h.snoc 5 g 0 (by decide) (by decide) (fun hh => absurd hh (by decide))).1
      rw [if_neg (by decide)] at h'
      refine ⟨_, _, rfl, ⟨h'.len, h'.dn0, h'.as0, fun _ => h'.run hr, fun hh => absurd hh (by simp), h'.lc, h'.ok, h'.sum, h'.last, h'.want, h'.fin⟩⟩
theorem pass_ok {lo hi n : Int} {f0 : Fd} {dmax amax want c : Int} {m : Nat} {dn : Int} {rn vl : Bool} {st bg sc ay : Int} {en : Bool} {out : List Ent} (t : TrT) (nx tk part : Int) (k : Nat) (wr : Bool)
    (h : Mid lo hi n f0 dmax amax want c m dn rn vl st bg sc ay en out) (hm : m ≤ 800) (hd : dmax ≤ 20000000) (hlo : 0 ≤ lo) (hhi : hi ≤ 144115188075855872) (hk : k < (gts t).length) (hw : wr = false → (k : Int) = want) :
    ∃ dn' rn' vl' st' bg' sc' ay' en' out', F32_0 ((((k : Int), (part, wr)), c), (jn t (nx, (dn, (rn, (vl, (st, (bg, (sc, (ay, (tk, en))))))))), out)) = some (jn t (nx, (dn', (rn', (vl', (st', (bg', (sc', (ay', (tk, en'))))))))), out') ∧
      Mid lo hi n f0 (dmax + if wr = false ∧ k = 0 then 1 else 0) amax (if wr then want else Int.tmod (want + 1) n) c (m + 4) dn' rn' vl' st' bg' sc' ay' en' out' := by
  rw [pass_E]
  have hl := h.len
  cases hwr : wr with
  | true =>
    rw [cond_true, note_eq _ _ (by omega)]
    have h' := (h.snoc 4 k 0 (by decide) (by decide) (fun hh => absurd hh (by decide))).1
    rw [if_neg (by decide)] at h'
    obtain ⟨vl', out', e, h2⟩ := spoil_ok t nx tk k h' (by omega)
    simp only [Option.bind_some, e]
    refine ⟨_, _, _, _, _, _, _, _, _, rfl, ?_⟩
    have := h2.more 2 0 (by decide)
    simpa using this
  | false =>
    rw [cond_false, note_eq _ _ (by omega)]
    obtain ⟨h', hp⟩ := h.snoc 1 k 0 (by decide) (by decide) (fun _ => hw hwr)
    rw [if_pos rfl] at h'
    simp only [Option.bind_some]
    generalize hW : Int.tmod (want + 1) n = W at h' ⊢
    simp only [Bool.false_eq_true, if_false, true_and]
    have tail : ∀ (sc : Int) (out : List Ent) (m' : Nat), m' ≤ m + 2 → Mid lo hi n f0 dmax amax W c m' dn rn vl st bg sc ay en out → (fdF n out f0).prev = some (k : Int) →
        ∃ dn' rn' vl' st' bg' sc' ay' en' out', (bif ((k : Int) == 0) then (F51_0 (c, (jn t (nx, (dn, (rn, (vl, (st, (bg, (sc, (ay, (tk, en))))))))), out))).bind fun r => some r
          else some (jn t (nx, (dn, (rn, (vl, (st, (bg, (sc, (ay, (tk, en))))))))), out)) = some (jn t (nx, (dn', (rn', (vl', (st', (bg', (sc', (ay', (tk, en'))))))))), out') ∧
        Mid lo hi n f0 (dmax + if k = 0 then 1 else 0) amax W c (m + 4) dn' rn' vl' st' bg' sc' ay' en' out' := by
      intro sc out m' hm' h hp
      by_cases hk0 : k = 0
      · subst hk0
        obtain ⟨dn', rn', vl', st', bg', sc', ay', en', out', e, h2⟩ := line_ok t nx tk h (by omega) (by omega) hlo hhi hp
        refine ⟨dn', rn', vl', st', bg', sc', ay', en', out', ?_, ?_⟩
        · rw [show (((0 : Nat) : Int) == 0) = true from rfl, cond_true, e]; rfl
        · rw [if_pos rfl]
          exact ⟨by have := h2.len; omega, h2.dn0, h2.as0, h2.run, h2.still, h2.lc, h2.ok, h2.sum, h2.last, h2.want, h2.fin⟩
      · refine ⟨dn, rn, vl, st, bg, sc, ay, en, out, ?_, ?_⟩
        · rw [show ((k : Int) == 0) = false from by simp; omega, cond_false]
        · rw [if_neg hk0, Int.add_zero]
          exact ⟨by have := h.len; omega, h.dn0, h.as0, h.run, h.still, h.lc, h.ok, h.sum, h.last, h.want, h.fin⟩
    cases hr : rn with
    | false =>
      rw [hr] at h' tail
      exact tail _ _ _ (by omega) h' hp
    | true =>
      have hg : (gts t)[k]? = some (gts t)[k] := List.getElem?_eq_getElem hk
      rw [cond_true, rdx_at hg]
      simp only [Option.bind_some]
      generalize (gts t)[k] = x
      cases hx : x.2.2.2.2 with
      | false =>
        rw [hr] at h' tail
        exact tail _ _ _ (by omega) h' hp
      | true =>
        have hrun := h'.run hr
        have hlc := h'.lc
        have e1 : IntKind.wrap .i64 (c - sc) = c - sc := w64 (by omega)
        rw [cond_true, note_eq _ _ (by simp; omega), e1]
        obtain ⟨h3, hp3⟩ := h'.snoc 2 k (c - sc) (by decide) (by omega) (fun hh => absurd hh (by decide))
        rw [if_neg (by decide)] at h3
        rw [hr] at h3 tail
        simp only [Option.bind_some]
        exact tail _ _ _ (by omega) (h3.sect rfl) hp3

/- A state that is clean. -/
def CleanP (s : StT) : Prop := 0 ≤ s.1 ∧ 0 ≤ s.2.1 ∧ 0 ≤ s.2.2.2.2.2.2.2.1 ∧ s.2.1 ≤ s.2.2.2.2.2.2.2.2.1 ∧ s.2.2.2.2.2.2.2.1 ≤ s.2.2.2.2.2.2.2.2.1 ∧ s.2.2.2.2.2.2.2.2.1 ≤ 16777216 ∧
  (s.2.2.1 = true → 0 ≤ s.2.2.2.2.1 ∧ s.2.2.2.2.1 ≤ s.2.2.2.2.2.1 ∧ s.2.2.2.2.2.1 ≤ s.2.2.2.2.2.2.1 ∧ s.2.2.2.2.2.2.1 ≤ s.2.2.2.2.2.2.2.2.1 * 4294967296) ∧
  (s.2.2.1 = false → s.2.1 = 0 ∧ s.2.2.2.1 = false ∧ s.2.2.2.2.1 = 0 ∧ s.2.2.2.2.2.1 = 0 ∧ s.2.2.2.2.2.2.1 = 0 ∧ s.2.2.2.2.2.2.2.1 = 0 ∧ s.2.2.2.2.2.2.2.2.2 = false)
theorem ite_neg {a b : Int} : decide ((if a < b then a else b) < 0) = (decide (a < 0) || decide (b < 0)) := by
  split <;> by_cases h1 : a < 0 <;> by_cases h2 : b < 0 <;> simp [h1, h2] <;> omega
theorem clean_eq (s : StT) : ∃ b, F18_0 s = some b ∧ (b = true ↔ CleanP s) := by
  obtain ⟨nx, dn, rn, vl, st, bg, sc, ay, tk, en⟩ := s
  unfold F18_0 CleanP
  simp only []
  by_cases h1 : (if ay < (if dn < nx then dn else nx) then ay else (if dn < nx then dn else nx)) < 0
  · rw [decide_eq_true h1, cond_true]
    refine ⟨false, rfl, fun h => absurd h (by decide), fun h => ?_⟩
    exfalso; split at h1 <;> (try split at h1) <;> omega
  · rw [decide_eq_false h1, cond_false]
    have n1 : 0 ≤ nx ∧ 0 ≤ dn ∧ 0 ≤ ay := by
      repeat' split at h1
      all_goals omega
    by_cases h2 : (if ay > dn then ay else dn) > tk
    · rw [decide_eq_true h2, cond_true]
      refine ⟨false, rfl, fun h => absurd h (by decide), fun h => ?_⟩
      exfalso; split at h2 <;> omega
    · rw [decide_eq_false h2, cond_false]
      have n2 : dn ≤ tk ∧ ay ≤ tk := by split at h2 <;> omega
      by_cases h3 : tk > 16777216
      · rw [decide_eq_true h3, cond_true]
        exact ⟨false, rfl, fun h => absurd h (by decide), fun h => by exfalso; omega⟩
      · rw [decide_eq_false h3, cond_false]
        cases rn with
        | false =>
          refine ⟨_, rfl, ?_⟩
          simp only [beq_self_eq_true, Bool.true_and, Bool.and_true, Bool.and_eq_true, beq_iff_eq, Bool.false_eq_true, false_implies, true_and, forall_const]
          constructor
          · rintro ⟨x1, x2, x3, x4, x5, x6, x7⟩
            exact ⟨n1.1, n1.2.1, n1.2.2, n2.1, n2.2, by omega, x1, x2, x3, x4, x5, x6, x7⟩
          · rintro ⟨_, _, _, _, _, _, x1, x2, x3, x4, x5, x6, x7⟩
            exact ⟨x1, x2, x3, x4, x5, x6, x7⟩
        | true =>
          simp only [Bool.not_true, cond_false]
          have ew : IntKind.wrap .i64 (tk * 4294967296) = tk * 4294967296 := w64 (by omega)
          rw [ew]
          by_cases h4 : 0 ≤ st
          · rw [decide_eq_true h4, cond_true]
            by_cases h5 : st ≤ bg
            · rw [decide_eq_true h5, cond_true]
              by_cases h6 : bg ≤ sc
              · rw [decide_eq_true h6, cond_true]
                refine ⟨_, rfl, ?_⟩
                rw [decide_eq_true_iff]
                constructor
                · intro h7
                  exact ⟨n1.1, n1.2.1, n1.2.2, n2.1, n2.2, by omega, fun _ => ⟨h4, h5, h6, h7⟩, fun hh => absurd hh (by simp)⟩
                · intro hh
                  exact (hh.2.2.2.2.2.2.1 trivial).2.2.2
              · rw [decide_eq_false h6, cond_false]
                exact ⟨false, rfl, fun h => absurd h (by decide), fun hh => absurd (hh.2.2.2.2.2.2.1 trivial).2.2.1 h6⟩
            · rw [decide_eq_false h5, cond_false]
              exact ⟨false, rfl, fun h => absurd h (by decide), fun hh => absurd (hh.2.2.2.2.2.2.1 trivial).2.1 h5⟩
          · rw [decide_eq_false h4, cond_false]
            exact ⟨false, rfl, fun h => absurd h (by decide), fun hh => absurd (hh.2.2.2.2.2.2.1 trivial).1 h4⟩

/- What a tick leaves. -/
def Post (n : Nat) (f0 : Fd) (tk : Int) (s' : StT) (l : List Ent) : Prop :=
  CleanP s' ∧ s'.1 < (n : Int) ∧ s'.2.2.2.2.2.2.2.2.1 = tk + 1 ∧ l.length ≤ 90 ∧ okF (tk * 4294967296) (tk * 4294967296 + 4294967296) n l f0 ∧
  (fdF n l f0).sum = s'.2.2.2.2.2.1 - s'.2.2.2.2.1 ∧ (fdF n l f0).last ≤ tk * 4294967296 + 4294967296 ∧ (fdF n l f0).want = s'.1 ∧ (∀ e ∈ l, e.1 = 6 → s'.2.2.2.2.2.2.2.2.2 = true)
def endK (t : TrT) (s0 : StT) (off : Bool) (lo tk0 : Int) (ps : List Ps) (r : RcT) (out : List Ent) : Option (StT × List Ent) :=
  (F12_0 (gts t, (s0.1, ps))).bind fun nx =>
  (F33_0 ((off, IntKind.wrap .i64 (lo + 4294967296)), ((r.1, (r.2.1, (r.2.2.1, (r.2.2.2.1, (r.2.2.2.2.1, (r.2.2.2.2.2.1, (r.2.2.2.2.2.2.1, (r.2.2.2.2.2.2.2.1, (r.2.2.2.2.2.2.2.2.1, (r.2.2.2.2.2.2.2.2.2.1, (r.2.2.2.2.2.2.2.2.2.2.1, (r.2.2.2.2.2.2.2.2.2.2.2.1, (r.2.2.2.2.2.2.2.2.2.2.2.2.1, (r.2.2.2.2.2.2.2.2.2.2.2.2.2.1, (r.2.2.2.2.2.2.2.2.2.2.2.2.2.2.1, (r.2.2.2.2.2.2.2.2.2.2.2.2.2.2.2.1, (nx, r.2.2.2.2.2.2.2.2.2.2.2.2.2.2.2.2.2))))))))))))))))), out))).bind fun x =>
  some ((x.1.2.2.2.2.2.2.2.2.2.2.2.2.2.2.2.2.1, (x.1.2.2.2.2.2.2.2.2.2.2.2.2.2.2.2.2.2.1, (x.1.2.2.2.2.2.2.2.2.2.2.2.2.2.2.2.2.2.2.1, (x.1.2.2.2.2.2.2.2.2.2.2.2.2.2.2.2.2.2.2.2.1, (x.1.2.2.2.2.2.2.2.2.2.2.2.2.2.2.2.2.2.2.2.2.1, (x.1.2.2.2.2.2.2.2.2.2.2.2.2.2.2.2.2.2.2.2.2.2.1, (x.1.2.2.2.2.2.2.2.2.2.2.2.2.2.2.2.2.2.2.2.2.2.2.1, (x.1.2.2.2.2.2.2.2.2.2.2.2.2.2.2.2.2.2.2.2.2.2.2.2.1, (IntKind.wrap .i64 (x.1.2.2.2.2.2.2.2.2.2.2.2.2.2.2.2.2.2.2.2.2.2.2.2.2.1 + 1), x.1.2.2.2.2.2.2.2.2.2.2.2.2.2.2.2.2.2.2.2.2.2.2.2.2.2))))))))), x.2)
theorem end_ok {n : Nat} {f0 : Fd} {tk c : Int} {m : Nat} {dn : Int} {rn vl : Bool} {st bg sc ay : Int} {en : Bool} {out : List Ent} (t : TrT) (s0 : StT) (off : Bool) (ps : List Ps) (nx : Int) (k : Nat)
    (hn : n = (gts t).length) (hn2 : n ≤ 20) (hs0 : s0.1 = (k : Int)) (hk : k < n) (htk : 0 ≤ tk ∧ tk < 16777216) (hps : ps.length ≤ 900) (hm : m ≤ 85)
    (h : Mid (tk * 4294967296) (tk * 4294967296 + 4294967296) n f0 (tk + 1) tk (((k + rightsS ps) % n : Nat) : Int) c m dn rn vl st bg sc ay en out) :
    ∃ s' l, endK t s0 off (tk * 4294967296) tk ps (jn t (nx, (dn, (rn, (vl, (st, (bg, (sc, (ay, (tk, en)))))))))) out = some (s', l) ∧ Post n f0 tk s' l := by
  unfold endK
  have hN : nextS (gts t) s0.1 ps = (((k + rightsS ps) % n : Nat) : Int) := by
    unfold nextS; rw [hs0, ← hn, if_pos ⟨by omega, by omega⟩]; rfl
  have hlt : (k + rightsS ps) % n < n := Nat.mod_lt _ (by omega)
  rw [n12_eq _ (by omega) _ _ (by omega), hN]
  generalize (k + rightsS ps) % n = w at h hlt ⊢
  have e1 : IntKind.wrap .i64 (tk * 4294967296 + 4294967296) = tk * 4294967296 + 4294967296 := w64 (by omega)
  have e2 : IntKind.wrap .i64 (tk + 1) = tk + 1 := w64 (by omega)
  have h' := h.later (tk * 4294967296 + 4294967296) h.lc.2 (Int.le_refl _)
  have fin : ∀ (vl : Bool) (ay : Int) (out : List Ent) (m : Nat), m ≤ 90 → Mid (tk * 4294967296) (tk * 4294967296 + 4294967296) n f0 (tk + 1) (tk + 1) (w : Int) (tk * 4294967296 + 4294967296) m dn rn vl st bg sc ay en out →
      Post n f0 tk ((w : Int), (dn, (rn, (vl, (st, (bg, (sc, (ay, (tk + 1, en))))))))) out := by
    intro vl ay out m hm h
    exact ⟨⟨Int.natCast_nonneg _, h.dn0.1, h.as0.1, h.dn0.2, h.as0.2, by show tk + 1 ≤ 16777216; omega, fun hr => by have := h.run hr; show 0 ≤ st ∧ st ≤ bg ∧ bg ≤ sc ∧ sc ≤ (tk + 1) * 4294967296; omega, h.still⟩, by show (w : Int) < n; omega, rfl, by have := h.len; omega, h.ok, h.sum, h.last, h.want, h.fin⟩
  have up : ∀ {m vl ay out}, Mid (tk * 4294967296) (tk * 4294967296 + 4294967296) n f0 (tk + 1) tk (w : Int) (tk * 4294967296 + 4294967296) m dn rn vl st bg sc ay en out → Mid (tk * 4294967296) (tk * 4294967296 + 4294967296) n f0 (tk + 1) (tk + 1) (w : Int) (tk * 4294967296 + 4294967296) m dn rn vl st bg sc ay en out :=
    fun h => ⟨h.len, h.dn0, ⟨h.as0.1, by have := h.as0.2; omega⟩, h.run, h.still, h.lc, h.ok, h.sum, h.last, h.want, h.fin⟩
  have setA : ∀ (x : Int), rn = true → 0 ≤ x ∧ x ≤ tk + 1 → Mid (tk * 4294967296) (tk * 4294967296 + 4294967296) n f0 (tk + 1) (tk + 1) (w : Int) (tk * 4294967296 + 4294967296) m dn rn vl st bg sc x en out :=
    fun x hr hx => ⟨h'.len, h'.dn0, hx, h'.run, fun hh => (by rw [hr] at hh; cases hh), h'.lc, h'.ok, h'.sum, h'.last, h'.want, h'.fin⟩
  simp only [Option.bind_some, e1]
  have E := stray_E t off (tk * 4294967296 + 4294967296) out w dn rn vl st bg sc ay tk en
  change ∃ s' l, (F33_0 ((off, (tk * 4294967296 + 4294967296)), (jn t ((w : Int), (dn, (rn, (vl, (st, (bg, (sc, (ay, (tk, en))))))))), out))).bind _ = some (s', l) ∧ _
  rw [E]
  have wrapup : ∀ (o : Option (RcT × List Ent)) (vl : Bool) (ay : Int) (out : List Ent), o = some (jn t ((w : Int), (dn, (rn, (vl, (st, (bg, (sc, (ay, (tk, en))))))))), out) →
      o.bind (fun x => some ((x.1.2.2.2.2.2.2.2.2.2.2.2.2.2.2.2.2.1, (x.1.2.2.2.2.2.2.2.2.2.2.2.2.2.2.2.2.2.1, (x.1.2.2.2.2.2.2.2.2.2.2.2.2.2.2.2.2.2.2.1, (x.1.2.2.2.2.2.2.2.2.2.2.2.2.2.2.2.2.2.2.2.1, (x.1.2.2.2.2.2.2.2.2.2.2.2.2.2.2.2.2.2.2.2.2.1, (x.1.2.2.2.2.2.2.2.2.2.2.2.2.2.2.2.2.2.2.2.2.2.1, (x.1.2.2.2.2.2.2.2.2.2.2.2.2.2.2.2.2.2.2.2.2.2.2.1, (x.1.2.2.2.2.2.2.2.2.2.2.2.2.2.2.2.2.2.2.2.2.2.2.2.1, (IntKind.wrap .i64 (x.1.2.2.2.2.2.2.2.2.2.2.2.2.2.2.2.2.2.2.2.2.2.2.2.2.1 + 1), x.1.2.2.2.2.2.2.2.2.2.2.2.2.2.2.2.2.2.2.2.2.2.2.2.2.2))))))))), x.2)) = some ((((w : Int), (dn, (rn, (vl, (st, (bg, (sc, (ay, (tk + 1, en))))))))) : StT), out) := by
    intro o vl ay out ho
    rw [ho]
    show some (((w : Int), (dn, (rn, (vl, (st, (bg, (sc, (ay, (IntKind.wrap .i64 (tk + 1), en))))))))), out) = _
    rw [e2]
  cases hr : rn with
  | false =>
    rw [hr] at wrapup fin h' up
    exact ⟨_, _, wrapup _ vl ay out rfl, fin _ _ _ m (by omega) (up h')⟩
  | true =>
    rw [hr] at wrapup fin h' up setA
    rw [Bool.not_true, cond_false]
    cases hen : en with
    | true =>
      rw [hen] at wrapup fin h' up
      exact ⟨_, _, wrapup _ vl ay out rfl, fin _ _ _ m (by omega) (up h')⟩
    | false =>
      rw [hen] at wrapup fin setA
      rw [cond_false]
      have ha := h'.as0
      cases off with
      | false =>
        rw [Bool.not_false, cond_true]
        have hA := setA 0 rfl ⟨Int.le_refl _, by omega⟩
        cases decide (0 > Int.fdiv t.1 (2 ^ 1)) with
        | false => exact ⟨_, _, wrapup _ vl 0 out rfl, fin _ _ _ m (by omega) hA⟩
        | true =>
          obtain ⟨vl', out', e, h2⟩ := spoil_ok t w tk 0 hA (by omega)
          rw [cond_true]
          exact ⟨_, _, wrapup _ vl' 0 out' (by rw [e]; rfl), fin _ _ _ (m + 1) (by omega) h2⟩
      | true =>
        have e3 : IntKind.wrap .i64 (ay + 1) = ay + 1 := w64 (by omega)
        have hA := setA (ay + 1) rfl ⟨by omega, by omega⟩
        rw [Bool.not_true, cond_false, e3]
        cases decide (ay + 1 > Int.fdiv t.1 (2 ^ 1)) with
        | false => exact ⟨_, _, wrapup _ vl (ay + 1) out rfl, fin _ _ _ m (by omega) hA⟩
        | true =>
          obtain ⟨vl', out', e, h2⟩ := spoil_ok t w tk 0 hA (by omega)
          rw [cond_true]
          exact ⟨_, _, wrapup _ vl' (ay + 1) out' (by rw [e]; rfl), fin _ _ _ (m + 1) (by omega) h2⟩

theorem tk_K (n : Nat) (v) : K20_0 (n + 1) v = B20_0_8 (K20_0 n) v := rfl
theorem tk_B (K) (t : TrT) (off : Bool) (lo ln i : Int) (ps : List Ps) (s : StT) (out : List Ent) (z s0 : StT) :
    B20_0_8 K ((off, (lo, (ln, i))), (ps, (jn t s, (out, (z, (s0, t)))))) =
    bif decide (i < ln) then
      (idx i ps.length).bind fun j => (ps[j]?).bind fun x =>
      (F32_0 ((x, IntKind.wrap .i64 (lo + IntKind.wrap .i64 x.2.1)), (jn t s, out))).bind fun r =>
      bif r.1.2.2.2.2.2.2.2.2.2.2.2.2.2.2.2.2.2.2.2.2.2.2.2.2.2 then (cutn 0 (IntKind.wrap .i64 (i + 1)) (ps.length : Int)).bind fun y => endK t s0 off lo s0.2.2.2.2.2.2.2.2.1 ((ps.drop y.1).take y.2) r.1 r.2
      else K ((off, (lo, (ln, IntKind.wrap .i64 (i + 1)))), (ps, (r.1, (r.2, (z, (s0, t))))))
    else endK t s0 off lo s0.2.2.2.2.2.2.2.2.1 ps (jn t s) out := rfl

theorem rights_step' {ps : List Ps} {i : Nat} {x : Ps} (h : ps[i]? = some x) : rightsS (ps.take (i + 1)) = rightsS (ps.take i) + (if x.2.2 then 0 else 1) := by
  have hi : i < ps.length := by
    rcases Nat.lt_or_ge i ps.length with hk | hk
    · exact hk
    · rw [List.getElem?_eq_none hk] at h; cases h
  rw [rights_step ps i hi, show ps[i] = x by rw [List.getElem?_eq_getElem hi] at h; exact Option.some.inj h]
theorem rights_take_le (ps : List Ps) (i : Nat) : rightsS (ps.take i) ≤ i := by
  have := rights_le (ps.take i); rw [List.length_take] at this; omega
theorem pass_part (l : List Gt) (nx : Nat) (p q : V2) (hn : nx < l.length) (i : Nat) (x : Ps) (h : (passS l (nx : Int) p q)[i]? = some x) : 0 ≤ x.2.1 ∧ x.2.1 ≤ 4294967295 := by
  rcases pass_at l nx p q hn i x h with ⟨g, _, e, _⟩ | ⟨_, _, k, g, _, e, _⟩
  · rw [e]; exact cross_part _ _ _ _
  · rw [e]; exact cross_part _ _ _ _
def gate0 (nx n : Nat) : Nat := if nx = 0 then 0 else n - nx
theorem gate0_eq {nx n i : Nat} (h1 : nx < n) (h2 : i < n) (h : (nx + i) % n = 0) : i = gate0 nx n := by
  unfold gate0
  rcases Nat.lt_or_ge (nx + i) n with hl | hl
  · rw [Nat.mod_eq_of_lt hl] at h
    rw [if_pos (by omega)]; omega
  · rw [Nat.mod_eq_sub_mod hl, Nat.mod_eq_of_lt (by omega)] at h
    rw [if_neg (by omega)]; omega
theorem tick_loop (t : TrT) (off : Bool) (n nx : Nat) (hn : n = (gts t).length) (hn2 : n ≤ 20) (hnx : nx < n) (tk : Int) (htk : 0 ≤ tk ∧ tk < 16777216) (s0 z : StT) (hs0 : s0.1 = (nx : Int)) (hst : s0.2.2.2.2.2.2.2.2.1 = tk) (p q : V2) (ps : List Ps) (hps : ps = passS (gts t) (nx : Int) p q) (f0 : Fd) :
    ∀ (d i N : Nat) (out : List Ent) (c dn : Int) (rn vl : Bool) (st bg sc ay : Int) (en : Bool), i + d = ps.length → d < N →
      Mid (tk * 4294967296) (tk * 4294967296 + 4294967296) n f0 (tk + if gate0 nx n < i then 1 else 0) tk (((nx + rightsS (ps.take i)) % n : Nat) : Int) c (4 * i) dn rn vl st bg sc ay en out →
      (i < ps.length → rightsS (ps.take i) = i) → (∀ x, ps[i]? = some x → c ≤ tk * 4294967296 + x.2.1) →
      ∃ s' l, K20_0 N ((off, (tk * 4294967296, ((ps.length : Int), (i : Int)))), (ps, (jn t ((nx : Int), (dn, (rn, (vl, (st, (bg, (sc, (ay, (tk, en))))))))), (out, (z, (s0, t)))))) = some (s', l) ∧ Post n f0 tk s' l := by
  have hpl : ps.length ≤ n := by rw [hps, hn]; exact pass_len _ _ _ _
  intro d
  induction d with
  | zero =>
    intro i N out c dn rn vl st bg sc ay en h hN hM hr hx
    obtain ⟨N, rfl⟩ : ∃ m, N = m + 1 := ⟨N - 1, by omega⟩
    rw [tk_K, tk_B, decide_eq_false (by omega), cond_false, hst]
    rw [List.take_of_length_le (by omega)] at hM
    refine end_ok t s0 off ps (nx : Int) nx hn hn2 hs0 hnx htk (by omega) (m := 4 * i) (by omega) (c := c) ?_
    have := hM.more 0 (1 - if gate0 nx n < i then 1 else 0) (by split <;> decide)
    rwa [Nat.add_zero, Int.add_assoc, show ((if gate0 nx n < i then 1 else 0 : Int) + (1 - if gate0 nx n < i then 1 else 0)) = 1 by omega] at this
  | succ d ih =>
    intro i N out c dn rn vl st bg sc ay en h hN hM hr hx
    obtain ⟨N, rfl⟩ : ∃ m, N = m + 1 := ⟨N - 1, by omega⟩
    have hi : i < ps.length := by omega
    obtain ⟨x, hg⟩ : ∃ x, ps[i]? = some x := ⟨_, List.getElem?_eq_getElem hi⟩
    have hat := pass_at (gts t) nx p q (by omega) i x (by rw [← hps]; exact hg)
    have hpart := pass_part (gts t) nx p q (by omega) i x (by rw [← hps]; exact hg)
    have hc := hx _ hg
    have hs := rights_step' hg
    have hri := hr hi
    have e5 : IntKind.wrap .i64 ((i : Int) + 1) = ((i + 1 : Nat) : Int) := wN (by omega) (by omega)
    have ew1 : IntKind.wrap .i64 x.2.1 = x.2.1 := w64 (by omega)
    have ew2 : IntKind.wrap .i64 (tk * 4294967296 + x.2.1) = tk * 4294967296 + x.2.1 := w64 (by omega)
    rw [tk_K, tk_B, decide_eq_true (by omega), cond_true, idx_at hi]
    simp only [Option.bind_some, hg, ew1, ew2, e5]
    have hM1 := hM.later (tk * 4294967296 + x.2.1) hc (by omega)
    have hsort : ∀ y, ps[i + 1]? = some y → x.2.1 ≤ y.2.1 := by
      intro y hy
      rcases pass_at (gts t) nx p q (by omega) (i + 1) y (by rw [← hps]; exact hy) with ⟨_, _, _, _, h4⟩ | ⟨h0, _⟩
      · exact h4 _ (by omega) (by rw [← hps]; exact hg)
      · omega
    -- the pass
    have step : ∃ dn' rn' vl' st' bg' sc' ay' en' out', F32_0 ((x, tk * 4294967296 + x.2.1), (jn t ((nx : Int), (dn, (rn, (vl, (st, (bg, (sc, (ay, (tk, en))))))))), out)) = some (jn t ((nx : Int), (dn', (rn', (vl', (st', (bg', (sc', (ay', (tk, en'))))))))), out') ∧
        Mid (tk * 4294967296) (tk * 4294967296 + 4294967296) n f0 (tk + if gate0 nx n < i + 1 then 1 else 0) tk (((nx + rightsS (ps.take (i + 1))) % n : Nat) : Int) (tk * 4294967296 + x.2.1) (4 * (i + 1)) dn' rn' vl' st' bg' sc' ay' en' out' ∧ (i + 1 < ps.length → rightsS (ps.take (i + 1)) = i + 1) := by
      rcases hat with ⟨g, h1, h2, h3, h4⟩ | ⟨h0, h1, k, g, h2, h3, h4⟩
      · have hk : (nx + i) % (gts t).length < (gts t).length := Nat.mod_lt _ (by omega)
        have hw : (((nx + i) % (gts t).length : Nat) : Int) = (((nx + rightsS (ps.take i)) % n : Nat) : Int) := by rw [hri, hn]
        have hx3 : x.2.2 = false := by rw [h2]
        obtain ⟨dn', rn', vl', st', bg', sc', ay', en', out', e, h5⟩ := pass_ok t (nx : Int) tk (fwdS g p q).1 ((nx + i) % (gts t).length) false hM1 (by omega) (by split <;> omega) (by omega) (by omega) hk (fun _ => hw)
        refine ⟨dn', rn', vl', st', bg', sc', ay', en', out', ?_, ?_, ?_⟩
        · have hx' : x.2.1 = (fwdS g p q).1 := by rw [h2]
          rw [← hx', ← hx3] at e
          rw [← e, hx3]
          rw [h2]
        · have hr1 : rightsS (ps.take (i + 1)) = i + 1 := by rw [hs, hx3, hri]; rfl
          have ew : (if false = true then (((nx + rightsS (ps.take i)) % n : Nat) : Int) else Int.tmod ((((nx + rightsS (ps.take i)) % n : Nat) : Int) + 1) (n : Int)) = (((nx + rightsS (ps.take (i + 1))) % n : Nat) : Int) := by
            rw [if_neg (by decide), hr1, hri]
            have : ((((nx + i) % n : Nat) : Int) + 1) = (((nx + i) % n + 1 : Nat) : Int) := by omega
            rw [this, tmodN, Nat.mod_add_mod, Nat.add_assoc]
          rw [ew] at h5
          have hd : (if gate0 nx n < i then (1 : Int) else 0) + (if false = false ∧ (nx + i) % (gts t).length = 0 then (1 : Int) else 0) ≤ (if gate0 nx n < i + 1 then (1 : Int) else 0) := by
            by_cases hz : (nx + i) % (gts t).length = 0
            · have := gate0_eq hnx (show i < n by omega) (by rw [hn]; exact hz)
              rw [if_neg (by omega), if_pos ⟨rfl, hz⟩, if_pos (by omega)]; decide
            · rw [if_neg (show ¬ (false = false ∧ (nx + i) % (gts t).length = 0) from fun hh => hz hh.2)]
              split <;> split <;> omega
          have h6 := h5.more 0 ((if gate0 nx n < i + 1 then (1 : Int) else 0) - ((if gate0 nx n < i then (1 : Int) else 0) + (if false = false ∧ (nx + i) % (gts t).length = 0 then (1 : Int) else 0))) (by omega)
          rw [show tk + (if gate0 nx n < i then (1 : Int) else 0) + (if false = false ∧ (nx + i) % (gts t).length = 0 then (1 : Int) else 0) + ((if gate0 nx n < i + 1 then (1 : Int) else 0) - ((if gate0 nx n < i then (1 : Int) else 0) + (if false = false ∧ (nx + i) % (gts t).length = 0 then (1 : Int) else 0))) = tk + (if gate0 nx n < i + 1 then (1 : Int) else 0) by omega] at h6
          exact h6
        · intro _; rw [hs, hx3, hri]; rfl
      · have hk : k < (gts t).length := by
          rcases Nat.lt_or_ge k (gts t).length with hk | hk
          · exact hk
          · rw [List.getElem?_eq_none hk] at h2; cases h2
        have hx3 : x.2.2 = true := by rw [h3]
        obtain ⟨dn', rn', vl', st', bg', sc', ay', en', out', e, h5⟩ := pass_ok t (nx : Int) tk (bwdS g p q).1 k true hM1 (by omega) (by split <;> omega) (by omega) (by omega) hk (fun hh => by cases hh)
        refine ⟨dn', rn', vl', st', bg', sc', ay', en', out', ?_, ?_, ?_⟩
        · have hx' : x.2.1 = (bwdS g p q).1 := by rw [h3]
          rw [← hx', ← hx3] at e
          rw [← e, hx3]
          rw [h3]
        · have hr1 : rightsS (ps.take (i + 1)) = rightsS (ps.take i) := by rw [hs, hx3]; rfl
          rw [hr1]
          rw [if_pos rfl] at h5
          have hd : (if gate0 nx n < i then (1 : Int) else 0) + (if true = false ∧ k = 0 then (1 : Int) else 0) ≤ (if gate0 nx n < i + 1 then (1 : Int) else 0) := by
            rw [if_neg (show ¬ (true = false ∧ k = 0) from fun hh => by cases hh.1)]
            split <;> split <;> omega
          have h6 := h5.more 0 ((if gate0 nx n < i + 1 then (1 : Int) else 0) - ((if gate0 nx n < i then (1 : Int) else 0) + (if true = false ∧ k = 0 then (1 : Int) else 0))) (by omega)
          rw [show tk + (if gate0 nx n < i then (1 : Int) else 0) + (if true = false ∧ k = 0 then (1 : Int) else 0) + ((if gate0 nx n < i + 1 then (1 : Int) else 0) - ((if gate0 nx n < i then (1 : Int) else 0) + (if true = false ∧ k = 0 then (1 : Int) else 0))) = tk + (if gate0 nx n < i + 1 then (1 : Int) else 0) by omega] at h6
          exact h6
        · intro hlt; rw [hps] at hlt; omega
    obtain ⟨dn', rn', vl', st', bg', sc', ay', en', out', e, hM2, hr2⟩ := step
    rw [e]
    simp only [Option.bind_some]
    have hsel : (jn t ((nx : Int), (dn', (rn', (vl', (st', (bg', (sc', (ay', (tk, en')))))))))).2.2.2.2.2.2.2.2.2.2.2.2.2.2.2.2.2.2.2.2.2.2.2.2.2 = en' := rfl
    rw [hsel]
    cases hen : en' with
    | true =>
      rw [hen] at hM2
      have hcut : cutn 0 ((i + 1 : Nat) : Int) (ps.length : Int) = some (0, i + 1) := by
        unfold cutn
        rw [decide_eq_true (by omega)]
        show some (_, _) = _
        congr 2 <;> omega
      rw [cond_true, hcut, hst]
      simp only [Option.bind_some, List.drop_zero]
      refine end_ok t s0 off (ps.take (i + 1)) (nx : Int) nx hn hn2 hs0 hnx htk (by rw [List.length_take]; omega) (m := 4 * (i + 1)) (by omega) (c := tk * 4294967296 + x.2.1) ?_
      have := hM2.more 0 (1 - if gate0 nx n < i + 1 then 1 else 0) (by split <;> decide)
      rwa [Nat.add_zero, Int.add_assoc, show ((if gate0 nx n < i + 1 then 1 else 0 : Int) + (1 - if gate0 nx n < i + 1 then 1 else 0)) = 1 by omega] at this
    | false =>
      rw [hen] at hM2
      rw [cond_false]
      exact ih (i + 1) N out' _ _ _ _ _ _ _ _ _ (by omega) (by omega) hM2 hr2 (fun y hy => by have := hsort y hy; omega)
theorem tick_any (t : TrT) (n : Nat) (hn : n = (gts t).length) (hn2 : n ≤ 20) (s : StT) (hs : CleanP s) (htk : s.2.2.2.2.2.2.2.2.1 < 16777216) (p q : V2) (off : Bool) (f0 : Fd) (hf1 : f0.sum = s.2.2.2.2.2.1 - s.2.2.2.2.1) (hf2 : f0.last ≤ s.2.2.2.2.2.2.2.2.1 * 4294967296) (hf3 : f0.want = s.1) :
    ∃ s' l, F20_0 (t, (s, (p, (q, off)))) = some (s', l) ∧ ((s' = s ∧ l = [] ∧ (s.2.2.2.2.2.2.2.2.2 = true ∨ s.1 ≥ n)) ∨ (s.2.2.2.2.2.2.2.2.2 = false ∧ Post n f0 s.2.2.2.2.2.2.2.2.1 s' l)) := by
  obtain ⟨nx, dn, rn, vl, st, bg, sc, ay, tk, en⟩ := s
  have E : ∀ K, E20_0 K (t, ((nx, (dn, (rn, (vl, (st, (bg, (sc, (ay, (tk, en))))))))), (p, (q, off)))) =
    bif en then some ((nx, (dn, (rn, (vl, (st, (bg, (sc, (ay, (tk, en))))))))), []) else bif decide (nx < 0) then some ((nx, (dn, (rn, (vl, (st, (bg, (sc, (ay, (tk, en))))))))), []) else
    bif decide (nx ≥ ((gts t).length : Int)) then some ((nx, (dn, (rn, (vl, (st, (bg, (sc, (ay, (tk, en))))))))), []) else
    (F10_0 (gts t, (nx, (p, q)))).bind fun ps => K ((off, (IntKind.wrap .i64 (tk * 4294967296), ((ps.length : Int), (0 : Int)))), (ps, (jn t (nx, (dn, (rn, (vl, (st, (bg, (sc, (ay, (tk, en))))))))), ([], ((0, (0, (false, (false, (0, (0, (0, (0, (0, false))))))))), ((nx, (dn, (rn, (vl, (st, (bg, (sc, (ay, (tk, en))))))))), t)))))) := fun _ => rfl
  show ∃ s' l, E20_0 (K20_0 1000) (t, ((nx, (dn, (rn, (vl, (st, (bg, (sc, (ay, (tk, en))))))))), (p, (q, off)))) = some (s', l) ∧ _
  rw [E]
  obtain ⟨c1, c2, c3, c4, c5, c6, c7, c8⟩ := hs
  dsimp only at c1 c2 c3 c4 c5 c6 c7 c8 htk hf1 hf2 hf3
  cases en with
  | true => exact ⟨_, _, rfl, Or.inl ⟨rfl, rfl, Or.inl rfl⟩⟩
  | false =>
    rw [cond_false, decide_eq_false (by omega), cond_false]
    by_cases h1 : nx ≥ ((gts t).length : Int)
    · rw [decide_eq_true h1, cond_true]
      exact ⟨_, _, rfl, Or.inl ⟨rfl, rfl, Or.inr (by show nx ≥ (n : Int); omega)⟩⟩
    · rw [decide_eq_false h1, cond_false, p10_eq _ (by omega)]
      simp only [Option.bind_some]
      obtain ⟨m, rfl⟩ : ∃ m : Nat, nx = m := ⟨nx.toNat, by omega⟩
      have e1 : IntKind.wrap .i64 (tk * 4294967296) = tk * 4294967296 := w64 (by omega)
      rw [e1]
      have hpl := pass_len (gts t) m p q
      have hM : Mid (tk * 4294967296) (tk * 4294967296 + 4294967296) n f0 (tk + if gate0 m n < 0 then 1 else 0) tk (((m + rightsS ((passS (gts t) (m : Int) p q).take 0)) % n : Nat) : Int) (tk * 4294967296) (4 * 0) dn rn vl st bg sc ay false [] := by
        rw [List.take_zero, show rightsS [] = 0 from rfl, Nat.add_zero, Nat.mod_eq_of_lt (by omega), if_neg (by omega), Int.add_zero]
        exact ⟨Nat.le_refl _, ⟨c2, c4⟩, ⟨c3, c5⟩, c7, c8, ⟨Int.le_refl _, by omega⟩, trivial, hf1, hf2, hf3, fun e he => absurd he (by simp)⟩
      obtain ⟨s', l, e, hP⟩ := tick_loop t off n m hn hn2 (by omega) tk ⟨by omega, htk⟩ ((m : Int), (dn, (rn, (vl, (st, (bg, (sc, (ay, (tk, false))))))))) (0, (0, (false, (false, (0, (0, (0, (0, (0, false))))))))) rfl rfl p q _ rfl f0 _ 0 1000 [] (tk * 4294967296) dn rn vl st bg sc ay false (Nat.zero_add _) (by omega) hM (fun _ => rfl) (fun x hx => by have := pass_part (gts t) m p q (by omega) 0 x hx; omega)
      exact ⟨s', l, e, Or.inr ⟨trivial, hP⟩⟩

/- Few -/
theorem few_K (n : Nat) (v) : K17_0 (n + 1) v = B17_0_4 (K17_0 n) v := rfl
theorem few_loop (t : TrT) (hl : (t.2.2.2.2.2.2.2.2.2.2.1).length ≤ 20) : ∀ (d i n : Nat), i + d = (t.2.2.2.2.2.2.2.2.2.2.1).length → d < n → ∃ b, K17_0 n ((i : Int), t) = some b := by
  intro d
  induction d with
  | zero =>
    intro i n h hn
    obtain ⟨n, rfl⟩ : ∃ m, n = m + 1 := ⟨n - 1, by omega⟩
    rw [few_K]
    unfold B17_0_4
    simp only [show decide ((i : Int) < ((t.2.2.2.2.2.2.2.2.2.2.1).length : Int)) = false from decide_eq_false (by omega), cond_false]
    exact ⟨_, rfl⟩
  | succ d ih =>
    intro i n h hn
    obtain ⟨n, rfl⟩ : ∃ m, n = m + 1 := ⟨n - 1, by omega⟩
    rw [few_K]
    unfold B17_0_4
    have hi : i < (t.2.2.2.2.2.2.2.2.2.2.1).length := by omega
    obtain ⟨x, hg⟩ : ∃ x, (t.2.2.2.2.2.2.2.2.2.2.1)[i]? = some x := ⟨_, List.getElem?_eq_getElem hi⟩
    have e5 : IntKind.wrap .i64 ((i : Int) + 1) = ((i + 1 : Nat) : Int) := wN (by omega) (by omega)
    simp only [show decide ((i : Int) < ((t.2.2.2.2.2.2.2.2.2.2.1).length : Int)) = true from decide_eq_true (by omega), cond_true, rdx_at hg, Option.bind_some, e5]
    cases decide ((x.length : Int) > 100) with
    | true => exact ⟨_, rfl⟩
    | false => exact ih (i + 1) n (by omega) (by omega)
theorem few12_any (t : TrT) : ∃ b, F28_0 t = some b := by
  unfold F28_0
  cases decide (((t.2.2.2.2.2.2.1).length : Int) ≤ 1200) with
  | false => exact ⟨_, rfl⟩
  | true =>
    rw [cond_true]
    cases decide (((t.2.2.2.2.2.2.2.1).length : Int) ≤ 1000) with
    | false => exact ⟨_, rfl⟩
    | true => exact ⟨_, rfl⟩
theorem few_any (t : TrT) : ∃ b, F17_0 t = some b ∧ (b = true → (gts t).length ≤ 20) := by
  have E : ∀ K, E17_0 K t = (F28_0 t).bind fun r => bif !r then some false else bif decide (((t.2.2.2.2.2.2.2.2.2.1).length : Int) > 100) then some false else
    bif decide (((t.2.2.2.2.2.2.2.2.2.2.1).length : Int) > 20) then some false else bif decide (((gts t).length : Int) > 20) then some false else K ((0 : Int), t) := fun _ => rfl
  show ∃ b, E17_0 (K17_0 1000) t = some b ∧ _
  rw [E]
  obtain ⟨r, hr⟩ := few12_any t
  rw [hr]
  simp only [Option.bind_some]
  cases r with
  | false => exact ⟨false, rfl, fun h => by cases h⟩
  | true =>
    rw [Bool.not_true, cond_false]
    by_cases h1 : ((t.2.2.2.2.2.2.2.2.2.1).length : Int) > 100
    · rw [decide_eq_true h1]; exact ⟨false, rfl, fun h => by cases h⟩
    · rw [decide_eq_false h1, cond_false]
      by_cases h2 : ((t.2.2.2.2.2.2.2.2.2.2.1).length : Int) > 20
      · rw [decide_eq_true h2]; exact ⟨false, rfl, fun h => by cases h⟩
      · rw [decide_eq_false h2, cond_false]
        by_cases h3 : ((gts t).length : Int) > 20
        · rw [decide_eq_true h3]; exact ⟨false, rfl, fun h => by cases h⟩
        · rw [decide_eq_false h3, cond_false]
          obtain ⟨b, hb⟩ := few_loop t (by omega) _ 0 1000 (Nat.zero_add _) (by omega)
          exact ⟨b, hb, fun _ => by omega⟩

/- ClockClean -/
theorem bit_chk (i : Nat) : chk (decide (0 ≤ IntKind.wrap .u64 (Int.tmod (i : Int) 64))) = some () := by
  rw [decide_eq_true (wrap_u64_u64 _).1]; rfl
theorem k7K (n : Nat) (v) : K7_0 (n + 1) v = B7_0_4 (K7_0 n) v := rfl
theorem k7_loop (t : TrT) (w : List V2) (bits : Int) (hw : w.length ≤ 300) (hn : (gts t).length ≤ 20) : ∀ (d i n : Nat) (s : StT), i + d = w.length → 0 < i → d < n → CleanP s → s.1 < ((gts t).length : Int) → s.2.2.2.2.2.2.2.2.1 ≤ 1000000 + i → K7_0 n ((i : Int), ((w, bits), (s, t))) = some true := by
  intro d
  induction d with
  | zero =>
    intro i n s h h0 hN hc hs htk
    obtain ⟨n, rfl⟩ : ∃ m, n = m + 1 := ⟨n - 1, by omega⟩
    rw [k7K]
    unfold B7_0_4
    simp only [show decide ((i : Int) < (w.length : Int)) = false from decide_eq_false (by omega), cond_false, awake31, Option.bind_some]
  | succ d ih =>
    intro i n s h h0 hN hc hs htk
    obtain ⟨n, rfl⟩ : ∃ m, n = m + 1 := ⟨n - 1, by omega⟩
    rw [k7K]
    unfold B7_0_4
    obtain ⟨q, hg⟩ : ∃ x, w[i]? = some x := ⟨_, List.getElem?_eq_getElem (by omega)⟩
    obtain ⟨p, hg1⟩ : ∃ x, w[i - 1]? = some x := ⟨_, List.getElem?_eq_getElem (by omega)⟩
    have e5 : IntKind.wrap .i64 ((i : Int) + 1) = ((i + 1 : Nat) : Int) := wN (by omega) (by omega)
    have e6 : IntKind.wrap .i64 ((i : Int) - 1) = ((i - 1 : Nat) : Int) := wN (by omega) (by omega)
    simp only [show decide ((i : Int) < (w.length : Int)) = true from decide_eq_true (by omega), cond_true, e5, e6, rdx_at hg, rdx_at hg1, Option.bind_some, bit_chk]
    generalize (Int.tmod (Int.fdiv bits (2 ^ min (IntKind.wrap .u64 (Int.tmod (i : Int) 64)).toNat 64)) 2 == 1) = off
    obtain ⟨s', l, e, hp⟩ := tick_any t _ rfl hn s hc (by omega) p q off ⟨s.2.2.2.2.2.1 - s.2.2.2.2.1, s.2.2.2.2.2.2.2.2.1 * 4294967296, s.1, none⟩ rfl (Int.le_refl _) rfl
    rw [e]
    simp only [Option.bind_some]
    rcases hp with ⟨hs', _, hen⟩ | ⟨hen, hP⟩
    · subst hs'
      obtain ⟨b, hb, hbc⟩ := clean_eq s'
      have hen' : s'.2.2.2.2.2.2.2.2.2 = true := by rcases hen with hen | hen; exact hen; omega
      rw [hb, hbc.2 hc]
      simp only [Option.bind_some, Bool.not_true, cond_false, decide_eq_false (show ¬ s'.1 ≥ ((gts t).length : Int) by omega), hen', cond_true, beq_self_eq_true, Bool.and_self]
      exact ih (i + 1) n s' (by omega) (by omega) (by omega) hc hs (by omega)
    · obtain ⟨b, hb, hbc⟩ := clean_eq s'
      obtain ⟨hc', hs', htk', _⟩ := hP
      have hc1 := hc.2.2.2.2.2.1
      have hc0 := hc.2.1
      have hc2 := hc.2.2.2.1
      have e7 : IntKind.wrap .i64 (s.2.2.2.2.2.2.2.2.1 + 1) = s.2.2.2.2.2.2.2.2.1 + 1 := w64 (by omega)
      rw [hb, hbc.2 hc']
      simp only [Option.bind_some, Bool.not_true, cond_false, decide_eq_false (show ¬ s'.1 ≥ ((gts t).length : Int) by omega), hen, Bool.not_false, cond_true, e7, htk', bne_self_eq_false]
      exact ih (i + 1) n s' (by omega) (by omega) (by omega) hc' hs' (by omega)
theorem law7_0 (v : A7_0) (h : Dom7_0 v) : F7_0 v = some true := by
  obtain ⟨t, s, w, bits⟩ := v
  have E : ∀ K, E7_0 K (t, (s, (w, bits))) = (F17_0 t).bind fun r => bif !r then (F19_0 ()).bind fun x => some x else
    bif decide ((w.length : Int) > 300) then (F19_0 ()).bind fun x => some x else
    (F18_0 s).bind fun c => bif !c then (F19_0 ()).bind fun x => some x else
    bif decide (s.1 ≥ ((gts t).length : Int)) then (F19_0 ()).bind fun x => some x else
    bif decide (s.2.2.2.2.2.2.2.2.1 > 1000000) then (F19_0 ()).bind fun x => some x else K ((1 : Int), ((w, bits), (s, t))) := fun _ => rfl
  show E7_0 (K7_0 1000) (t, (s, (w, bits))) = some true
  rw [E, awake31]
  obtain ⟨r, hr, hr2⟩ := few_any t
  obtain ⟨b, hb, hbc⟩ := clean_eq s
  rw [hr, hb]
  simp only [Option.bind_some]
  cases r with
  | false => rfl
  | true =>
    rw [Bool.not_true, cond_false]
    by_cases h1 : (w.length : Int) > 300
    · rw [decide_eq_true h1]; rfl
    · rw [decide_eq_false h1, cond_false]
      cases b with
      | false => rfl
      | true =>
        rw [Bool.not_true, cond_false]
        by_cases h2 : s.1 ≥ ((gts t).length : Int)
        · rw [decide_eq_true h2]; rfl
        · rw [decide_eq_false h2, cond_false]
          by_cases h3 : s.2.2.2.2.2.2.2.2.1 > 1000000
          · rw [decide_eq_true h3]; rfl
          · rw [decide_eq_false h3, cond_false]
            by_cases h4 : w.length = 0
            · obtain rfl : w = [] := List.eq_nil_of_length_eq_zero h4
              refine (k7K 999 _).trans ?_
              unfold B7_0_4
              simp only [List.length_nil, show decide ((1 : Int) < ((0 : Nat) : Int)) = false from rfl, cond_false, awake31, Option.bind_some]
            · exact k7_loop t w bits (by omega) (hr2 rfl) (w.length - 1) 1 1000 s (by omega) (by omega) (by omega) (hbc.1 rfl) (by omega) (by omega)

/- ClockSums -/
def st0 : StT := (0, (0, (false, (false, (0, (0, (0, (0, (0, false)))))))))
theorem clean0 : CleanP st0 := by
  refine ⟨by decide, by decide, by decide, by decide, by decide, by decide, fun h => (by cases h), fun _ => ⟨rfl, rfl, rfl, rfl, rfl, rfl, rfl⟩⟩
theorem k8K1 (n : Nat) (v) : (K8_0 (n + 1)).1 v = B8_0_7 (K8_0 n) v := rfl
theorem k8K2 (n : Nat) (v) : (K8_0 (n + 1)).2 v = B8_0_13 (K8_0 n) v := rfl
theorem k8_in (t : TrT) (wb : List V2 × Int) (s' : StT) (l : List Ent) (n : Int) (tk : Int) (htk : 0 ≤ tk ∧ tk ≤ 1000000) (hl : l.length ≤ 90) (hfin : ∀ e ∈ l, e.1 = 6 → s'.2.2.2.2.2.2.2.2.2 = true) (ic : Int) (hic : 0 ≤ ic ∧ ic ≤ 1000) : ∀ (d k N : Nat) (f : Fd), k + d = l.length → okF (tk * 4294967296) (tk * 4294967296 + 4294967296) n (l.drop k) f →
    (K8_0 (N + d + 1)).2 ((f.sum, (f.last, (ic, (tk, (k : Int))))), (l, (s', (wb, t)))) = (K8_0 N).1 (((fdF n (l.drop k) f).sum, ((fdF n (l.drop k) f).last, ic + 1)), (s', (wb, t))) := by
  intro d
  have e4 : IntKind.wrap .i64 (ic + 1) = ic + 1 := w64 (by omega)
  have p32 : (2 : Int) ^ 32 = 4294967296 := by decide
  have e7 : IntKind.wrap .i64 (tk * 4294967296) = tk * 4294967296 := w64 (by omega)
  have e8 : IntKind.wrap .i64 (tk + 1) = tk + 1 := w64 (by omega)
  have e9 : IntKind.wrap .i64 ((tk + 1) * 4294967296) = tk * 4294967296 + 4294967296 := by rw [w64 (by omega)]; omega
  induction d with
  | zero =>
    intro k N f h hok
    rw [Nat.add_zero, k8K2]
    unfold B8_0_13
    simp only [show decide ((k : Int) < (l.length : Int)) = false from decide_eq_false (by omega), cond_false, e4, List.drop_eq_nil_of_le (show l.length ≤ k by omega)]
    rfl
  | succ d ih =>
    intro k N f h hok
    have hk : k < l.length := by omega
    obtain ⟨e, hg⟩ : ∃ x, l[k]? = some x := ⟨_, List.getElem?_eq_getElem hk⟩
    have hdrop : l.drop k = e :: l.drop (k + 1) := by
      rw [List.drop_eq_getElem_cons hk]
      rw [List.getElem?_eq_getElem hk] at hg
      rw [Option.some.inj hg]
    rw [hdrop] at hok ⊢
    obtain ⟨⟨o1, o2, o3, o4, o5, o6, o7⟩, hok'⟩ := hok
    have e5 : IntKind.wrap .i64 ((k : Int) + 1) = ((k + 1 : Nat) : Int) := wN (by omega) (by omega)
    have hmem : e ∈ l := List.mem_of_getElem? hg
    have hih := ih (k + 1) N (fdStep n f e) (by omega) hok'
    rw [show N + (d + 1) + 1 = (N + d + 1) + 1 by omega, k8K2]
    unfold B8_0_13
    simp only [show decide ((k : Int) < (l.length : Int)) = true from decide_eq_true (by omega), cond_true, idx_at hk, hg, Option.bind_some, e5, p32, e7, e8, e9, decide_eq_false (show ¬ e.2.2.1 < f.last by omega), decide_eq_false (show ¬ e.2.2.1 < tk * 4294967296 by omega), decide_eq_false (show ¬ e.2.2.1 > tk * 4294967296 + 4294967296 by omega), decide_eq_false (show ¬ e.2.2.2 < 0 by omega), cond_false]
    have hf : fdF n (e :: l.drop (k + 1)) f = fdF n (l.drop (k + 1)) (fdStep n f e) := rfl
    rw [hf, ← hih]
    by_cases h3 : e.1 = 3
    · obtain ⟨_, b1, b2⟩ := o7 h3
      have es : IntKind.wrap .i64 (f.sum + e.2.2.2) = f.sum + e.2.2.2 := w64 (by omega)
      have hs : (fdStep n f e).sum = f.sum + e.2.2.2 := if_pos h3
      rw [show (e.1 == 3) = true by simp [h3], cond_true, show (e.1 == 6) = false by simp [h3], cond_false, es, hs]
      rfl
    · have hs : (fdStep n f e).sum = f.sum := if_neg h3
      rw [show (e.1 == 3) = false by simp [h3], cond_false]
      by_cases h6 : e.1 = 6
      · rw [show (e.1 == 6) = true by simp [h6], cond_true, o5 h6, bne_self_eq_false, cond_false, hfin e hmem h6, Bool.not_true, cond_false, hs]
        rfl
      · rw [show (e.1 == 6) = false by simp [h6], cond_false, hs]
        rfl
theorem k8_out (t : TrT) (w : List V2) (bits : Int) (hw : w.length ≤ 300) (hn : (gts t).length ≤ 20) : ∀ (d i N : Nat) (s : StT) (sum last : Int), i + d = w.length → 0 < i → 92 * d < N → CleanP s → s.2.2.2.2.2.2.2.2.1 ≤ i → sum = s.2.2.2.2.2.1 - s.2.2.2.2.1 → last ≤ s.2.2.2.2.2.2.2.2.1 * 4294967296 →
    (K8_0 N).1 ((sum, (last, (i : Int))), (s, ((w, bits), t))) = some true := by
  intro d
  induction d with
  | zero =>
    intro i N s sum last h h0 hN hc htk hsum hlast
    obtain ⟨N, rfl⟩ : ∃ m, N = m + 1 := ⟨N - 1, by omega⟩
    rw [k8K1]
    unfold B8_0_7
    simp only [show decide ((i : Int) < (w.length : Int)) = false from decide_eq_false (by omega), cond_false, awake31, Option.bind_some]
  | succ d ih =>
    intro i N s sum last h h0 hN hc htk hsum hlast
    obtain ⟨N, rfl⟩ : ∃ m, N = m + 1 := ⟨N - 1, by omega⟩
    rw [k8K1]
    unfold B8_0_7
    obtain ⟨q, hg⟩ : ∃ x, w[i]? = some x := ⟨_, List.getElem?_eq_getElem (by omega)⟩
    obtain ⟨p, hg1⟩ : ∃ x, w[i - 1]? = some x := ⟨_, List.getElem?_eq_getElem (by omega)⟩
    have e6 : IntKind.wrap .i64 ((i : Int) - 1) = ((i - 1 : Nat) : Int) := wN (by omega) (by omega)
    simp only [show decide ((i : Int) < (w.length : Int)) = true from decide_eq_true (by omega), cond_true, e6, rdx_at hg, rdx_at hg1, Option.bind_some, bit_chk]
    generalize (Int.tmod (Int.fdiv bits (2 ^ min (IntKind.wrap .u64 (Int.tmod (i : Int) 64)).toNat 64)) 2 == 1) = off
    have hc0 := hc.2.1
    have hc2 := hc.2.2.2.1
    obtain ⟨s', l, e, hp⟩ := tick_any t _ rfl hn s hc (by omega) p q off ⟨sum, last, s.1, none⟩ hsum hlast rfl
    rw [e]
    simp only [Option.bind_some]
    have e5 : ((i : Int) + 1) = ((i + 1 : Nat) : Int) := by omega
    rcases hp with ⟨rfl, rfl, hen⟩ | ⟨hen, hP⟩
    · have := k8_in t (w, bits) s' [] ((gts t).length : Int) s'.2.2.2.2.2.2.2.2.1 ⟨by omega, by omega⟩ (by decide) (fun e he => absurd he (by simp)) (i : Int) ⟨by omega, by omega⟩ 0 0 (N - 1) ⟨sum, last, s'.1, none⟩ rfl trivial
      rw [show N - 1 + 0 + 1 = N by omega] at this
      refine this.trans ?_
      rw [e5]
      exact ih (i + 1) (N - 1) s' sum last (by omega) (by omega) (by omega) hc (by omega) hsum hlast
    · obtain ⟨hc', hs', htk', hll, hok, hsum', hlast', _, hfin⟩ := hP
      have := k8_in t (w, bits) s' l ((gts t).length : Int) s.2.2.2.2.2.2.2.2.1 ⟨by omega, by omega⟩ hll hfin (i : Int) ⟨by omega, by omega⟩ l.length 0 (N - (l.length + 1)) ⟨sum, last, s.1, none⟩ (Nat.zero_add _) hok
      rw [show N - (l.length + 1) + l.length + 1 = N by omega] at this
      refine this.trans ?_
      rw [e5]
      exact ih (i + 1) _ s' _ _ (by omega) (by omega) (by omega) hc' (by omega) hsum' (by rw [htk', List.drop_zero]; omega)
theorem law8_0 (v : A8_0) (h : Dom8_0 v) : F8_0 v = some true := by
  obtain ⟨t, w, bits⟩ := v
  have E : ∀ K, E8_0 K (t, (w, bits)) = (F17_0 t).bind fun r => bif !r then some true else
    bif decide ((w.length : Int) > 300) then some true else K.1 (((0 : Int), ((0 : Int), (1 : Int))), (st0, ((w, bits), t))) := fun _ => rfl
  show E8_0 (K8_0 40000) (t, (w, bits)) = some true
  refine (E _).trans ?_
  obtain ⟨r, hr, hr2⟩ := few_any t
  rw [hr]
  simp only [Option.bind_some]
  cases r with
  | false => rfl
  | true =>
    rw [Bool.not_true, cond_false]
    by_cases h1 : (w.length : Int) > 300
    · rw [decide_eq_true h1]; rfl
    · rw [decide_eq_false h1, cond_false]
      by_cases h4 : w.length = 0
      · obtain rfl : w = [] := List.eq_nil_of_length_eq_zero h4
        refine (k8K1 39999 _).trans ?_
        unfold B8_0_7
        simp only [List.length_nil, show decide ((1 : Int) < ((0 : Nat) : Int)) = false from rfl, cond_false, awake31, Option.bind_some]
      · exact k8_out t w bits (by omega) (hr2 rfl) (w.length - 1) 1 40000 st0 0 0 (by omega) (by omega) (by omega) clean0 (by decide) rfl (by decide)

/- ClockOrder -/
theorem k9K1 (n : Nat) (v) : (K9_0 (n + 1)).1 v = B9_0_6 (K9_0 n) v := rfl
theorem k9K2 (n : Nat) (v) : (K9_0 (n + 1)).2 v = B9_0_11 (K9_0 n) v := rfl
theorem tmod_in {a n : Int} (ha : 0 ≤ a) (hn : 0 < n) : 0 ≤ Int.tmod a n ∧ Int.tmod a n < n := by
  rw [Int.tmod_eq_emod_of_nonneg ha]
  exact ⟨Int.emod_nonneg _ (by omega), Int.emod_lt_of_pos _ hn⟩
theorem k9_in (t : TrT) (wb : List V2 × Int) (s' : StT) (l : List Ent) (n : Nat) (hn : n = (gts t).length) (hn0 : 0 < n) (hn2 : n ≤ 20) (lo hi : Int) (hl : l.length ≤ 90) (ic : Int) (hic : 0 ≤ ic ∧ ic ≤ 1000) : ∀ (d k N : Nat) (f : Fd), k + d = l.length → okF lo hi n (l.drop k) f → 0 ≤ f.want ∧ f.want < n → f.prev = (if k = 0 then none else (l[k - 1]?).map fun e => e.2.1) →
    (K9_0 (N + d + 1)).2 ((f.want, (ic, (k : Int))), (l, (s', (wb, t)))) = (K9_0 N).1 (((fdF n (l.drop k) f).want, ic + 1), (s', (wb, t))) := by
  intro d
  have e4 : IntKind.wrap .i64 (ic + 1) = ic + 1 := w64 (by omega)
  induction d with
  | zero =>
    intro k N f h hok hw hp
    rw [Nat.add_zero, k9K2]
    unfold B9_0_11
    simp only [show decide ((k : Int) < (l.length : Int)) = false from decide_eq_false (by omega), cond_false, e4, List.drop_eq_nil_of_le (show l.length ≤ k by omega)]
    rfl
  | succ d ih =>
    intro k N f h hok hw hp
    have hk : k < l.length := by omega
    obtain ⟨e, hg⟩ : ∃ x, l[k]? = some x := ⟨_, List.getElem?_eq_getElem hk⟩
    have hdrop : l.drop k = e :: l.drop (k + 1) := by
      rw [List.drop_eq_getElem_cons hk]
      rw [List.getElem?_eq_getElem hk] at hg
      rw [Option.some.inj hg]
    rw [hdrop] at hok ⊢
    obtain ⟨⟨o1, o2, o3, o4, o5, o6, o7⟩, hok'⟩ := hok
    have e5 : IntKind.wrap .i64 ((k : Int) + 1) = ((k + 1 : Nat) : Int) := wN (by omega) (by omega)
    have ew : IntKind.wrap .i64 (f.want + 1) = f.want + 1 := w64 (by omega)
    have hp' : (fdStep n f e).prev = (if k + 1 = 0 then none else (l[k + 1 - 1]?).map fun e => e.2.1) := by
      rw [if_neg (by omega), Nat.add_sub_cancel, hg]; rfl
    have hwt : 0 ≤ Int.tmod (f.want + 1) n ∧ Int.tmod (f.want + 1) n < n := tmod_in (by omega) (by omega)
    have hw' : 0 ≤ (fdStep n f e).want ∧ (fdStep n f e).want < n := by
      show 0 ≤ (if e.1 = 1 then Int.tmod (f.want + 1) n else f.want) ∧ (if e.1 = 1 then Int.tmod (f.want + 1) n else f.want) < n
      split
      · exact hwt
      · exact hw
    have hih := ih (k + 1) N (fdStep n f e) (by omega) hok' hw' hp'
    have hcn : chk (((gts t).length : Int) != 0) = some () := chk_ne (by omega)
    rw [show N + (d + 1) + 1 = (N + d + 1) + 1 by omega, k9K2]
    unfold B9_0_11
    simp only [show decide ((k : Int) < (l.length : Int)) = true from decide_eq_true (by omega), cond_true, idx_at hk, hg, Option.bind_some, e5, ew, hcn]
    have hf : fdF n (e :: l.drop (k + 1)) f = fdF n (l.drop (k + 1)) (fdStep n f e) := rfl
    rw [hf, ← hih]
    by_cases h1 : e.1 = 1
    · have hs : (fdStep n f e).want = Int.tmod (f.want + 1) ((gts t).length : Int) := by rw [← hn]; exact if_pos h1
      rw [show (e.1 == 1) = true by simp [h1], cond_true, o6 h1, bne_self_eq_false, cond_false, show (e.1 == 3) = false by simp [h1], cond_false, hs]
    · have hs : (fdStep n f e).want = f.want := if_neg h1
      rw [show (e.1 == 1) = false by simp [h1], cond_false]
      by_cases h3 : e.1 = 3
      · obtain ⟨b0, _⟩ := o7 h3
        rw [hp] at b0
        have hk0 : k ≠ 0 := by intro hh; rw [if_pos hh] at b0; cases b0
        rw [if_neg hk0] at b0
        obtain ⟨y, hy⟩ : ∃ y, l[k - 1]? = some y := ⟨_, List.getElem?_eq_getElem (by omega)⟩
        rw [hy] at b0
        have hy0 : y.2.1 = 0 := Option.some.inj b0
        have e6 : IntKind.wrap .i64 ((k : Int) - 1) = ((k - 1 : Nat) : Int) := wN (by omega) (by omega)
        rw [show (e.1 == 3) = true by simp [h3], cond_true, show ((k : Int) == 0) = false by simp; omega, cond_false, e6, idx_at (show k - 1 < l.length by omega)]
        simp only [Option.bind_some, hy, hy0, bne_self_eq_false, cond_false, hs]
      · rw [show (e.1 == 3) = false by simp [h3], cond_false, hs]
theorem k9_out (t : TrT) (w : List V2) (bits : Int) (hw : w.length ≤ 300) (hn : (gts t).length ≤ 20) : ∀ (d i N : Nat) (s : StT) (want : Int), i + d = w.length → 0 < i → 92 * d < N → CleanP s → s.2.2.2.2.2.2.2.2.1 ≤ i → want = s.1 → s.1 < (gts t).length ∨ ((gts t).length = 0 ∧ s.1 ≥ 0) →
    (K9_0 N).1 ((want, (i : Int)), (s, ((w, bits), t))) = some true := by
  intro d
  induction d with
  | zero =>
    intro i N s want h h0 hN hc htk hwant hlt
    obtain ⟨N, rfl⟩ : ∃ m, N = m + 1 := ⟨N - 1, by omega⟩
    rw [k9K1]
    unfold B9_0_6
    simp only [show decide ((i : Int) < (w.length : Int)) = false from decide_eq_false (by omega), cond_false, awake31, Option.bind_some]
  | succ d ih =>
    intro i N s want h h0 hN hc htk hwant hlt
    obtain ⟨N, rfl⟩ : ∃ m, N = m + 1 := ⟨N - 1, by omega⟩
    rw [k9K1]
    unfold B9_0_6
    obtain ⟨q, hg⟩ : ∃ x, w[i]? = some x := ⟨_, List.getElem?_eq_getElem (by omega)⟩
    obtain ⟨p, hg1⟩ : ∃ x, w[i - 1]? = some x := ⟨_, List.getElem?_eq_getElem (by omega)⟩
    have e6 : IntKind.wrap .i64 ((i : Int) - 1) = ((i - 1 : Nat) : Int) := wN (by omega) (by omega)
    have e5 : ((i : Int) + 1) = ((i + 1 : Nat) : Int) := by omega
    have e4 : IntKind.wrap .i64 ((i : Int) + 1) = ((i + 1 : Nat) : Int) := wN (by omega) (by omega)
    simp only [show decide ((i : Int) < (w.length : Int)) = true from decide_eq_true (by omega), cond_true, e6, rdx_at hg, rdx_at hg1, Option.bind_some]
    have hc0 := hc.2.1
    have hcn := hc.1
    have hc2 := hc.2.2.2.1
    obtain ⟨s', l, e, hp⟩ := tick_any t _ rfl hn s hc (by omega) p q false ⟨s.2.2.2.2.2.1 - s.2.2.2.2.1, s.2.2.2.2.2.2.2.2.1 * 4294967296, want, none⟩ rfl (Int.le_refl _) hwant
    rw [e]
    simp only [Option.bind_some]
    rcases hp with ⟨rfl, rfl, hen⟩ | ⟨hen, hP⟩
    · obtain ⟨N, rfl⟩ : ∃ m, N = m + 1 := ⟨N - 1, by omega⟩
      rw [k9K2]
      unfold B9_0_11
      simp only [List.length_nil, show decide ((0 : Int) < ((0 : Nat) : Int)) = false from rfl, cond_false, e4]
      exact ih (i + 1) N s' want (by omega) (by omega) (by omega) hc (by omega) hwant hlt
    · obtain ⟨hc', hs', htk', hll, hok, hsum', hlast', hwant', hfin⟩ := hP
      have hn0 : 0 < (gts t).length := by have := hc'.1; omega
      have := k9_in t (w, bits) s' l _ rfl hn0 hn _ _ hll (i : Int) ⟨by omega, by omega⟩ l.length 0 (N - (l.length + 1)) ⟨s.2.2.2.2.2.1 - s.2.2.2.2.1, s.2.2.2.2.2.2.2.2.1 * 4294967296, want, none⟩ (Nat.zero_add _) hok ⟨by show 0 ≤ want; omega, by show want < _; omega⟩ rfl
      rw [show N - (l.length + 1) + l.length + 1 = N by omega] at this
      refine this.trans ?_
      rw [e5]
      exact ih (i + 1) _ s' _ (by omega) (by omega) (by omega) hc' (by omega) hwant' (Or.inl hs')
theorem law9_0 (v : A9_0) (h : Dom9_0 v) : F9_0 v = some true := by
  obtain ⟨t, w, bits⟩ := v
  have E : ∀ K, E9_0 K (t, (w, bits)) = (F17_0 t).bind fun r => bif !r then some true else
    bif decide ((w.length : Int) > 300) then some true else K.1 (((0 : Int), (1 : Int)), (st0, ((w, bits), t))) := fun _ => rfl
  show E9_0 (K9_0 40000) (t, (w, bits)) = some true
  refine (E _).trans ?_
  obtain ⟨r, hr, hr2⟩ := few_any t
  rw [hr]
  simp only [Option.bind_some]
  cases r with
  | false => rfl
  | true =>
    rw [Bool.not_true, cond_false]
    by_cases h1 : (w.length : Int) > 300
    · rw [decide_eq_true h1]; rfl
    · rw [decide_eq_false h1, cond_false]
      by_cases h4 : w.length = 0
      · obtain rfl : w = [] := List.eq_nil_of_length_eq_zero h4
        refine (k9K1 39999 _).trans ?_
        unfold B9_0_6
        simp only [List.length_nil, show decide ((1 : Int) < ((0 : Nat) : Int)) = false from rfl, cond_false, awake31, Option.bind_some]
      · refine k9_out t w bits (by omega) (hr2 rfl) (w.length - 1) 1 40000 st0 0 (by omega) (by omega) (by omega) clean0 (by decide) rfl ?_
        show (0 : Int) < _ ∨ (_ ∧ (0 : Int) ≥ 0)
        omega
end Go.Proofs.Ytdjjinfpfjoniaa.Ev
