/- slices.SortFunc on rows of a table, as a function: the sorted rows, where no car stands twice. -/
import Derived.Test.YtemdppcnhlnicaaXFnsPre
import Derived.Test.YtemdppcnhlnicaaEvSort2
import Derived.Test.YtemdppcnhlnicaaMCompare
import Derived.Test.YtemdppcnhlnicaaXLay
import Derived.Shelf.SlSortCmp.NoneTotal
set_option linter.unusedVariables false
namespace Go.Proofs.Ytemdppcnhlnicaa.Ev
open Go Go.RowKit Go.Sort Go.Shelf
abbrev TRow : Type := Int × Int × List Int
def rowLe (x y : TRow) : Bool := !ltOf cmpRow y x
def sortRows (xs : List TRow) : Option (List TRow) :=
  if xs.length < 4611686018427387904 ∧ (xs.map (·.1)).Nodup ∧ ∀ x ∈ xs, x.2.2.length < 1000 then some (xs.mergeSort rowLe) else none
theorem sortRows_inv {xs r : List TRow} (h : sortRows xs = some r) : xs.length < 4611686018427387904 ∧ (xs.map (·.1)).Nodup ∧ (∀ x ∈ xs, x.2.2.length < 1000) ∧ r = xs.mergeSort rowLe := by
  unfold sortRows at h
  split at h
  · rename_i hh; exact ⟨hh.1, hh.2.1, hh.2.2, (Option.some.inj h).symm⟩
  · cases h
theorem rowLe_trans (a b c : TRow) (h1 : rowLe a b = true) (h2 : rowLe b c = true) : rowLe a c = true := by
  simp only [rowLe, Bool.not_eq_true'] at *
  have := cmpRow_cmp.swo.ntrans c b a h2 h1
  exact this
theorem rowLe_total (a b : TRow) : (rowLe a b || rowLe b a) = true := by
  simp only [rowLe, ltOf]
  have := cmpRow_cmp.anti a b
  by_cases h1 : cmpRow b a < 0 <;> by_cases h2 : cmpRow a b < 0 <;> simp [h1, h2]
  omega
theorem rowLe_anti {a b : TRow} (h1 : rowLe a b = true) (h2 : rowLe b a = true) : a.1 = b.1 := by
  simp only [rowLe, ltOf, Bool.not_eq_true', decide_eq_false_iff_not] at h1 h2
  have := cmpRow_cmp.anti a b
  exact cmpRow_zero (by omega)
theorem car_inj {xs : List TRow} (h : (xs.map (·.1)).Nodup) {a b : TRow} (ha : a ∈ xs) (hb : b ∈ xs) (e : a.1 = b.1) : a = b := by
  obtain ⟨i, hi, rfl⟩ := List.getElem_of_mem ha
  obtain ⟨j, hj, rfl⟩ := List.getElem_of_mem hb
  have := (List.getElem_inj (xs := xs.map (·.1)) (h₀ := by simpa using hi) (h₁ := by simpa using hj) h).1 (by simpa using e)
  subst this; rfl
theorem sorted_unique {xs ys : List TRow} (hn : (xs.map (·.1)).Nodup) (hp : ys.Perm xs) (hs : ∀ (i j : Nat) (a b : TRow), i < j → ys[i]? = some a → ys[j]? = some b → ltOf cmpRow b a = false) : ys = xs.mergeSort rowLe := by
  have h1 : ys.Pairwise fun a b => rowLe a b = true := by
    rw [List.pairwise_iff_getElem]
    intro i j hi hj hij
    have := hs i j ys[i] ys[j] hij (List.getElem?_eq_getElem hi) (List.getElem?_eq_getElem hj)
    simp [rowLe, this]
  have h2 := List.pairwise_mergeSort rowLe_trans rowLe_total xs
  have hp2 : (xs.mergeSort rowLe).Perm xs := List.mergeSort_perm xs rowLe
  refine List.Perm.eq_of_pairwise (le := fun a b => rowLe a b = true) ?_ h1 h2 (hp.trans hp2.symm)
  intro a b ha hb hab hba
  exact car_inj hn (hp.mem_iff.1 ha) (hp2.mem_iff.1 hb) (rowLe_anti hab hba)
def vSort : Pk G (List (Int × Int × List Int)) := (Pk.snd (pk (Sh.snd (Sh.cons (Sh.osl 0) (Sh.snd (Sh.cons (Sh.snd (Sh.fn (.func 26) Sh.nil Sh.nil)) Sh.nil)))) (Sh.fst (Sh.hrow 0 48 Sh.hnil))))
def wSort : Wk G (List (Int × Int × List Int)) := (Wk.one [] (Pk.snd (pk Sh.nil (Sh.fst (Sh.hrow 0 48 Sh.hnil)))))
theorem sortRows_ok : FnOk Try.prog E 25 vSort.enc sortRows wSort.enc := by
  have h := sort_known (P := Try.prog) (E := E) envOk (g := 25) (h := 26) (e := 48) (k := 3) sortRow rfl Try.isAgg48 Try.sizeOf48 (by kernel_rfl) Try.func25 (by kernel_rfl) rfl Try.func26 (by kernel_rfl) rfl
    (F := F26_0) ok26_0 (cf := cmpRow) (good := fun x => x.2.2.length < 1000) (fun x y _ hy => f26 x y hy) cmpRow_cmp.swo
    (fun p cap fv w => AnyF.slices_SortFunc_none sortRow p cap fv w)
    (S := sortRows) (fun xs r hr ys hp hs => by obtain ⟨_, h1, _, rfl⟩ := sortRows_inv hr; exact sorted_unique h1 hp hs)
    (fun xs r hr => (sortRows_inv hr).1) (fun xs r hr => (sortRows_inv hr).2.2.1)
  exact h
end Go.Proofs.Ytemdppcnhlnicaa.Ev
