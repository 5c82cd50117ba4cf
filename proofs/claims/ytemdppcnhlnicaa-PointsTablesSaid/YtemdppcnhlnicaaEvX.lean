/- math/bits' Add64 and Sub64: functions without a body. -/
import Derived.Test.YtemdppcnhlnicaaEvU
import Derived.Laws.Externs
set_option linter.unusedVariables false
set_option linter.unusedSimpArgs false
namespace Go.Proofs.Ytemdppcnhlnicaa.Ev
open Go Go.RowKit
variable {G : Nat → Type}
def p3u : Pk G (Int × Int × Int) := (Pk.fst (pk (Sh.cons (Sh.int .u64) (Sh.cons (Sh.int .u64) (Sh.fst (Sh.cons (Sh.int .u64) Sh.nil)))) Sh.hnil))
def p2u : Pk G (Int × Int) := (Pk.fst (pk (Sh.cons (Sh.int .u64) (Sh.fst (Sh.cons (Sh.int .u64) Sh.nil))) Sh.hnil))
def add64F (v : Int × Int × Int) : Option (Int × Int) := match Nat.ble v.2.2.toNat 1 with
  | true => some (Int.ofNat ((v.1.toNat + v.2.1.toNat + v.2.2.toNat) % Extern.MathBitsCarry.m64), Int.ofNat ((v.1.toNat + v.2.1.toNat + v.2.2.toNat) / Extern.MathBitsCarry.m64))
  | false => none
theorem extern_known {P : Program} {E : Env G} {g : FuncId} {V U : Type} (pv : Pk G V) (pw : Pk G U) (f : V → Option U) (hV : ∀ v, (pv.enc v).2 = []) (hW : ∀ r, (pw.enc r).2 = [])
    (hrun : ∀ v r, f v = some r → ∀ (c : Cx G) (vals : List Value) (w : World), Reps c (pv.enc v).1 vals → ∃ rv, (callFunc g vals.toArray).run P w = .ok (.value rv) w ∧ ∀ c : Cx G, Rep c (resAV (pw.enc r).1) rv) : FnOk P E g pv.enc f pw.enc := by
  intro v r hv fc bl sv w vals hw han m hr hlt
  obtain ⟨rv, h1, h2⟩ := hrun v r hv _ vals w hr
  refine .inr ⟨rv, w, h1, bl, sv, ?_, h2 _, fun j hj _ => by rw [hV] at hj; cases hj⟩
  rw [hV] at m
  rw [hW]
  exact m
theorem add64_known {P : Program} {E : Env G} {g : FuncId} {fn : Func} (hf : P.funcs[g]? = some fn) (hname : (fn.name == "runtime.NumGoroutine") = false) (hb : fn.body.isNone = true) (hn : Extern.findNext fn = none) (he : Extern.find fn = some add64Entry) : FnOk P E g (p3u (G := G)).enc add64F (p2u (G := G)).enc := by
  refine extern_known p3u p2u add64F (fun _ => rfl) (fun _ => rfl) ?_
  rintro ⟨x, y, k⟩ r h c vals w hr
  obtain ⟨v1, vs, rfl, r1, hr⟩ := Reps.cons_inv hr
  obtain ⟨v2, vs, rfl, r2, hr⟩ := Reps.cons_inv hr
  obtain ⟨v3, vs, rfl, r3, hr⟩ := Reps.cons_inv hr
  obtain rfl := Reps.nil_inv hr
  obtain rfl := Rep.int_inv r1
  obtain rfl := Rep.int_inv r2
  obtain rfl := Rep.int_inv r3
  unfold add64F at h
  simp only at h
  split at h
  · rename_i hk
    obtain rfl := Option.some.inj h
    have hk' := Nat.le_of_ble_eq_true hk
    let A : Int := Int.ofNat ((x.toNat + y.toNat + k.toNat) % Extern.MathBitsCarry.m64)
    let B : Int := Int.ofNat ((x.toNat + y.toNat + k.toNat) / Extern.MathBitsCarry.m64)
    refine ⟨.tuple [.int .u64 A, .int .u64 B].toArray, ?_, fun c => ?_⟩
    · have key : (add64Entry [.int .u64 x, .int .u64 y, .int .u64 k].toArray).run P w = .ok (.tuple [.int .u64 A, .int .u64 B].toArray) w := by
        have main : ∀ z : Int, z.toNat ≤ 1 → (add64Entry #[.int .u64 x, .int .u64 y, .int .u64 z]).run P w = .ok (Extern.MathBitsCarry.pair ((x.toNat + y.toNat + z.toNat) % Extern.MathBitsCarry.m64) ((x.toNat + y.toNat + z.toNat) / Extern.MathBitsCarry.m64)) w := by
          intro z hz
          match z, hz with
          | .ofNat 0, _ => rfl
          | .ofNat 1, _ => rfl
          | .ofNat (n + 2), h => exact absurd h (by show ¬ (n + 2 ≤ 1); omega)
          | .negSucc n, _ => rfl
        exact main k hk'
      have e := run_callFunc_extern (P := P) hf hname hb hn he [.int .u64 x, .int .u64 y, .int .u64 k].toArray w
      rw [key] at e
      exact e
    · have hp := Reps.cons (c := c) (.int .u64 A) (Reps.cons (.int .u64 B) (Reps.nil c))
      exact Rep.tup _ _ hp.1 hp.2
  · cases h
def sub64E : Array Value → Sem Value := fun args => do
  let (x, y, b) ← Extern.MathBitsCarry.three "Sub64" args
  pure (Extern.MathBitsCarry.pair ((x + Extern.MathBitsCarry.m64 - y - b) % Extern.MathBitsCarry.m64) (if x < y + b then 1 else 0))
def sub64F (v : Int × Int × Int) : Option (Int × Int) := match Nat.ble v.2.2.toNat 1 with
  | true => some (Int.ofNat ((v.1.toNat + Extern.MathBitsCarry.m64 - v.2.1.toNat - v.2.2.toNat) % Extern.MathBitsCarry.m64), Int.ofNat (if v.1.toNat < v.2.1.toNat + v.2.2.toNat then 1 else 0))
  | false => none
theorem sub64_known {P : Program} {E : Env G} {g : FuncId} {fn : Func} (hf : P.funcs[g]? = some fn) (hname : (fn.name == "runtime.NumGoroutine") = false) (hb : fn.body.isNone = true) (hn : Extern.findNext fn = none) (he : Extern.find fn = some sub64E) : FnOk P E g (p3u (G := G)).enc sub64F (p2u (G := G)).enc := by
  refine extern_known p3u p2u sub64F (fun _ => rfl) (fun _ => rfl) ?_
  rintro ⟨x, y, k⟩ r h c vals w hr
  obtain ⟨v1, vs, rfl, r1, hr⟩ := Reps.cons_inv hr
  obtain ⟨v2, vs, rfl, r2, hr⟩ := Reps.cons_inv hr
  obtain ⟨v3, vs, rfl, r3, hr⟩ := Reps.cons_inv hr
  obtain rfl := Reps.nil_inv hr
  obtain rfl := Rep.int_inv r1
  obtain rfl := Rep.int_inv r2
  obtain rfl := Rep.int_inv r3
  unfold sub64F at h
  simp only at h
  split at h
  · rename_i hk
    obtain rfl := Option.some.inj h
    have hk' := Nat.le_of_ble_eq_true hk
    let A : Int := Int.ofNat ((x.toNat + Extern.MathBitsCarry.m64 - y.toNat - k.toNat) % Extern.MathBitsCarry.m64)
    let B : Int := Int.ofNat (if x.toNat < y.toNat + k.toNat then 1 else 0)
    refine ⟨.tuple [.int .u64 A, .int .u64 B].toArray, ?_, fun c => ?_⟩
    · have key : (sub64E [.int .u64 x, .int .u64 y, .int .u64 k].toArray).run P w = .ok (.tuple [.int .u64 A, .int .u64 B].toArray) w := by
        have main : ∀ z : Int, z.toNat ≤ 1 → (sub64E #[.int .u64 x, .int .u64 y, .int .u64 z]).run P w = .ok (Extern.MathBitsCarry.pair ((x.toNat + Extern.MathBitsCarry.m64 - y.toNat - z.toNat) % Extern.MathBitsCarry.m64) (if x.toNat < y.toNat + z.toNat then 1 else 0)) w := by
          intro z hz
          match z, hz with
          | .ofNat 0, _ => rfl
          | .ofNat 1, _ => rfl
          | .ofNat (n + 2), h => exact absurd h (by show ¬ (n + 2 ≤ 1); omega)
          | .negSucc n, _ => rfl
        exact main k hk'
      have e := run_callFunc_extern (P := P) hf hname hb hn he [.int .u64 x, .int .u64 y, .int .u64 k].toArray w
      rw [key] at e
      exact e
    · have hp := Reps.cons (c := c) (.int .u64 A) (Reps.cons (.int .u64 B) (Reps.nil c))
      exact Rep.tup _ _ hp.1 hp.2
  · cases h
end Go.Proofs.Ytemdppcnhlnicaa.Ev
