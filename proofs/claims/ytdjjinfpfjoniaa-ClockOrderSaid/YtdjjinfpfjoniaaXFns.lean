import Derived.Test.YtdjjinfpfjoniaaXFnsA
set_option linter.unusedVariables false
namespace Go.Proofs.Ytdjjinfpfjoniaa.Ev
open Go Go.RowKit
/- (*chicane/clock.race).pass -/
abbrev A32_0 : Type := ((Int × Int × Bool) × Int) × (Int × Int × Int × Int × Int × Int × List Int × List Int × (List (Int × Int × Bool)) × (List (Int × Int)) × (List (List (Int × Int))) × (List (Int × Int × Int × Int × Bool)) × Int × Int × Int × Int × Int × Int × Bool × Bool × Int × Int × Int × Int × Int × Bool) × List (Int × Int × Int × Int)
abbrev R32_0 : Type := (Int × Int × Int × Int × Int × Int × List Int × List Int × (List (Int × Int × Bool)) × (List (Int × Int)) × (List (List (Int × Int))) × (List (Int × Int × Int × Int × Bool)) × Int × Int × Int × Int × Int × Int × Bool × Bool × Int × Int × Int × Int × Int × Bool) × List (Int × Int × Int × Int)
def v32_0 : Pk G (((Int × Int × Bool) × Int) × (Int × Int × Int × Int × Int × Int × List Int × List Int × (List (Int × Int × Bool)) × (List (Int × Int)) × (List (List (Int × Int))) × (List (Int × Int × Int × Int × Bool)) × Int × Int × Int × Int × Int × Int × Bool × Bool × Int × Int × Int × Int × Int × Bool) × List (Int × Int × Int × Int)) := (pk (Sh.snd (Sh.cons (Sh.ptr 0 0) (Sh.cons (Sh.agg (Sh.cons (Sh.int .i64) (Sh.cons (Sh.int .u32) (Sh.fst (Sh.cons Sh.bool Sh.nil))))) (Sh.fst (Sh.cons (Sh.int .i64) Sh.nil))))) (Sh.hfix 0 82 (Sh.cons (Sh.int .i64) (Sh.cons (Sh.int .i64) (Sh.cons (Sh.int .i64) (Sh.cons (Sh.int .i64) (Sh.cons (Sh.int .i64) (Sh.cons (Sh.int .i64) (Sh.cons (Sh.ros 23) (Sh.cons (Sh.ros 3) (Sh.cons (Sh.ros 110) (Sh.cons (Sh.ros 25) (Sh.cons (Sh.ros 43) (Sh.cons (Sh.ros 40) (Sh.cons (Sh.int .i64) (Sh.cons (Sh.int .i64) (Sh.cons (Sh.int .u32) (Sh.cons (Sh.int .i64) (Sh.cons (Sh.int .i64) (Sh.cons (Sh.int .i64) (Sh.cons Sh.bool (Sh.cons Sh.bool (Sh.cons (Sh.int .i64) (Sh.cons (Sh.int .i64) (Sh.cons (Sh.int .i64) (Sh.cons (Sh.int .i64) (Sh.cons (Sh.int .i64) (Sh.fst (Sh.cons Sh.bool (Sh.snd (Sh.cons (Sh.snd (Sh.fn (.func 31) Sh.nil (Sh.snd (Sh.cons (Sh.ptr 1 0) Sh.nil)))) Sh.nil))))))))))))))))))))))))))))) (Sh.snd (Sh.hfix 1 62 (Sh.snd (Sh.cons (Sh.osl 2) Sh.nil)) (Sh.fst (Sh.hrow 2 68 Sh.hnil))))))
def w32_0 : Wk G ((Int × Int × Int × Int × Int × Int × List Int × List Int × (List (Int × Int × Bool)) × (List (Int × Int)) × (List (List (Int × Int))) × (List (Int × Int × Int × Int × Bool)) × Int × Int × Int × Int × Int × Int × Bool × Bool × Int × Int × Int × Int × Int × Bool) × List (Int × Int × Int × Int)) := (Wk.one [] (Pk.snd (pk Sh.nil (Sh.hfix 0 82 (Sh.cons (Sh.int .i64) (Sh.cons (Sh.int .i64) (Sh.cons (Sh.int .i64) (Sh.cons (Sh.int .i64) (Sh.cons (Sh.int .i64) (Sh.cons (Sh.int .i64) (Sh.cons (Sh.ros 23) (Sh.cons (Sh.ros 3) (Sh.cons (Sh.ros 110) (Sh.cons (Sh.ros 25) (Sh.cons (Sh.ros 43) (Sh.cons (Sh.ros 40) (Sh.cons (Sh.int .i64) (Sh.cons (Sh.int .i64) (Sh.cons (Sh.int .u32) (Sh.cons (Sh.int .i64) (Sh.cons (Sh.int .i64) (Sh.cons (Sh.int .i64) (Sh.cons Sh.bool (Sh.cons Sh.bool (Sh.cons (Sh.int .i64) (Sh.cons (Sh.int .i64) (Sh.cons (Sh.int .i64) (Sh.cons (Sh.int .i64) (Sh.cons (Sh.int .i64) (Sh.fst (Sh.cons Sh.bool (Sh.snd (Sh.cons (Sh.snd (Sh.fn (.func 31) Sh.nil (Sh.snd (Sh.cons (Sh.ptr 1 0) Sh.nil)))) Sh.nil))))))))))))))))))))))))))))) (Sh.snd (Sh.hfix 1 62 (Sh.snd (Sh.cons (Sh.osl 3) Sh.nil)) (Sh.fst (Sh.hrow 3 68 Sh.hnil))))))))
def F32_0 (v : ((Int × Int × Bool) × Int) × (Int × Int × Int × Int × Int × Int × List Int × List Int × (List (Int × Int × Bool)) × (List (Int × Int)) × (List (List (Int × Int))) × (List (Int × Int × Int × Int × Bool)) × Int × Int × Int × Int × Int × Int × Bool × Bool × Int × Int × Int × Int × Int × Bool) × List (Int × Int × Int × Int)) : Option ((Int × Int × Int × Int × Int × Int × List Int × List Int × (List (Int × Int × Bool)) × (List (Int × Int)) × (List (List (Int × Int))) × (List (Int × Int × Int × Int × Bool)) × Int × Int × Int × Int × Int × Int × Bool × Bool × Int × Int × Int × Int × Int × Bool) × List (Int × Int × Int × Int)) :=
  bif v.1.1.2.2 then
    (F31_0 (((4 : Int), (v.1.1.1, (v.1.2, (0 : Int)))), v.2.2)).bind fun r1882 =>
    (F50_0 ((v.1.1.1, v.1.2), (v.2.1, r1882))).bind fun r1883 =>
    some (r1883)
  else
    (F31_0 (((1 : Int), (v.1.1.1, (v.1.2, (0 : Int)))), v.2.2)).bind fun r1884 =>
    bif v.2.1.2.2.2.2.2.2.2.2.2.2.2.2.2.2.2.2.2.2.1 then
      (rdx v.2.1.2.2.2.2.2.2.2.2.2.2.2.1 v.1.1.1).bind fun (x1885 : Int × Int × Int × Int × Bool) =>
      bif x1885.2.2.2.2 then
        let x1886 : Int := (IntKind.wrap .i64 (v.1.2 - v.2.1.2.2.2.2.2.2.2.2.2.2.2.2.2.2.2.2.2.2.2.2.2.2.1))
        (F31_0 (((2 : Int), (v.1.1.1, (v.1.2, x1886))), r1884)).bind fun r1887 =>
        bif (v.1.1.1 == (0 : Int)) then
          (F51_0 (v.1.2, ((v.2.1.1, (v.2.1.2.1, (v.2.1.2.2.1, (v.2.1.2.2.2.1, (v.2.1.2.2.2.2.1, (v.2.1.2.2.2.2.2.1, (v.2.1.2.2.2.2.2.2.1, (v.2.1.2.2.2.2.2.2.2.1, (v.2.1.2.2.2.2.2.2.2.2.1, (v.2.1.2.2.2.2.2.2.2.2.2.1, (v.2.1.2.2.2.2.2.2.2.2.2.2.1, (v.2.1.2.2.2.2.2.2.2.2.2.2.2.1, (v.2.1.2.2.2.2.2.2.2.2.2.2.2.2.1, (v.2.1.2.2.2.2.2.2.2.2.2.2.2.2.2.1, (v.2.1.2.2.2.2.2.2.2.2.2.2.2.2.2.2.1, (v.2.1.2.2.2.2.2.2.2.2.2.2.2.2.2.2.2.1, (v.2.1.2.2.2.2.2.2.2.2.2.2.2.2.2.2.2.2.1, (v.2.1.2.2.2.2.2.2.2.2.2.2.2.2.2.2.2.2.2.1, (v.2.1.2.2.2.2.2.2.2.2.2.2.2.2.2.2.2.2.2.2.1, (v.2.1.2.2.2.2.2.2.2.2.2.2.2.2.2.2.2.2.2.2.2.1, (v.2.1.2.2.2.2.2.2.2.2.2.2.2.2.2.2.2.2.2.2.2.2.1, (v.2.1.2.2.2.2.2.2.2.2.2.2.2.2.2.2.2.2.2.2.2.2.2.1, (v.1.2, v.2.1.2.2.2.2.2.2.2.2.2.2.2.2.2.2.2.2.2.2.2.2.2.2.2))))))))))))))))))))))), r1887))).bind fun r1888 =>
          some (r1888)
        else
          some ((v.2.1.1, (v.2.1.2.1, (v.2.1.2.2.1, (v.2.1.2.2.2.1, (v.2.1.2.2.2.2.1, (v.2.1.2.2.2.2.2.1, (v.2.1.2.2.2.2.2.2.1, (v.2.1.2.2.2.2.2.2.2.1, (v.2.1.2.2.2.2.2.2.2.2.1, (v.2.1.2.2.2.2.2.2.2.2.2.1, (v.2.1.2.2.2.2.2.2.2.2.2.2.1, (v.2.1.2.2.2.2.2.2.2.2.2.2.2.1, (v.2.1.2.2.2.2.2.2.2.2.2.2.2.2.1, (v.2.1.2.2.2.2.2.2.2.2.2.2.2.2.2.1, (v.2.1.2.2.2.2.2.2.2.2.2.2.2.2.2.2.1, (v.2.1.2.2.2.2.2.2.2.2.2.2.2.2.2.2.2.1, (v.2.1.2.2.2.2.2.2.2.2.2.2.2.2.2.2.2.2.1, (v.2.1.2.2.2.2.2.2.2.2.2.2.2.2.2.2.2.2.2.1, (v.2.1.2.2.2.2.2.2.2.2.2.2.2.2.2.2.2.2.2.2.1, (v.2.1.2.2.2.2.2.2.2.2.2.2.2.2.2.2.2.2.2.2.2.1, (v.2.1.2.2.2.2.2.2.2.2.2.2.2.2.2.2.2.2.2.2.2.2.1, (v.2.1.2.2.2.2.2.2.2.2.2.2.2.2.2.2.2.2.2.2.2.2.2.1, (v.1.2, v.2.1.2.2.2.2.2.2.2.2.2.2.2.2.2.2.2.2.2.2.2.2.2.2.2))))))))))))))))))))))), r1887)
      else
        bif (v.1.1.1 == (0 : Int)) then
          (F51_0 (v.1.2, (v.2.1, r1884))).bind fun r1889 =>
          some (r1889)
        else
          some (v.2.1, r1884)
    else
      bif (v.1.1.1 == (0 : Int)) then
        (F51_0 (v.1.2, (v.2.1, r1884))).bind fun r1890 =>
        some (r1890)
      else
        some (v.2.1, r1884)

noncomputable def k32_0 : List (Known Try.prog E) := [Known.of envOk [1, 1, 1, 1, 5] [.keep, .keep, .keep, .keep, (.ptr 0 0 62 [(.own 1 68)])] v31_0 F31_0 w31_0 ok31_0, Known.of envOk [5, 1, 1] [(.ptr 0 0 82 [.keep, .keep, .keep, .keep, .keep, .keep, (.ros 23), (.ros 3), (.ros 110), (.ros 25), (.ros 43), (.ros 40), .keep, .keep, .keep, .keep, .keep, .keep, .keep, .keep, .keep, .keep, .keep, .keep, .keep, .keep, (.fn (.func 31) [] [(.ptr 1 0 62 [(.own 2 68)])])]), .keep, .keep] v50_0 F50_0 w50_0 ok50_0, Known.of envOk [5, 1] [(.ptr 0 0 82 [.keep, .keep, .keep, .keep, .keep, .keep, (.ros 23), (.ros 3), (.ros 110), (.ros 25), (.ros 43), (.ros 40), .keep, .keep, .keep, .keep, .keep, .keep, .keep, .keep, .keep, .keep, .keep, .keep, .keep, .keep, (.fn (.func 31) [] [(.ptr 1 0 62 [(.own 2 68)])])]), .keep] v51_0 F51_0 w51_0 ok51_0]
noncomputable def L32_0 (n id : Nat) (st : St G) : Option ((Int × Int × Int × Int × Int × Int × List Int × List Int × (List (Int × Int × Bool)) × (List (Int × Int)) × (List (List (Int × Int))) × (List (Int × Int × Int × Int × Bool)) × Int × Int × Int × Int × Int × Int × Bool × Bool × Int × Int × Int × Int × Int × Bool) × List (Int × Int × Int × Int)) := none
set_option maxRecDepth 100000 in
theorem e32_0 (n : Nat) (v : ((Int × Int × Bool) × Int) × (Int × Int × Int × Int × Int × Int × List Int × List Int × (List (Int × Int × Bool)) × (List (Int × Int)) × (List (List (Int × Int))) × (List (Int × Int × Int × Int × Bool)) × Int × Int × Int × Int × Int × Int × Bool × Bool × Int × Int × Int × Int × Int × Bool) × List (Int × Int × Int × Int)) : ev Try.prog E (oracle k32_0) Try.f32.ntmps (fun x => mem x []) (L32_0 n) (finA Try.prog E Try.f32.results.toList [(.ptr 1 0 62 [(.own 3 68)]), (.ptr 0 0 82 [.keep, .keep, .keep, .keep, .keep, .keep, (.ros 23), (.ros 3), (.ros 110), (.ros 25), (.ros 43), (.ros 40), .keep, .keep, .keep, .keep, .keep, .keep, .keep, .keep, .keep, .keep, .keep, .keep, .keep, .keep, (.fn (.func 31) [] [(.ptr 1 0 62 [])])])] w32_0.alts) 4000 [.code (Try.f32.body.getD .skip)] (argSt (v32_0.enc v)) = F32_0 v := by kernel_rfl
theorem ok32_0 : FnOk Try.prog E 32 v32_0.enc F32_0 w32_0.enc :=
  fn_known (fn := Try.f32) (c := (Try.f32.body.getD .skip)) Try.func32 (by kernel_rfl) rfl envOk (oracle_ok k32_0) mixed v32_0 F32_0 w32_0 [(.ptr 1 0 62 [(.own 3 68)]), (.ptr 0 0 82 [.keep, .keep, .keep, .keep, .keep, .keep, (.ros 23), (.ros 3), (.ros 110), (.ros 25), (.ros 43), (.ros 40), .keep, .keep, .keep, .keep, .keep, .keep, .keep, .keep, .keep, .keep, .keep, .keep, .keep, .keep, (.fn (.func 31) [] [(.ptr 1 0 62 [])])])] [] 4000 L32_0 (by kernel_rfl)
    (fun _ h => nomatch h) (fun v _ h => ⟨0, (e32_0 _ v).trans h⟩) (fun _ => by kernel_rfl) (fun _ => by kernel_rfl) (fun _ _ => by kernel_rfl)
/- (*chicane/clock.race).stray -/
abbrev A33_0 : Type := (Bool × Int) × (Int × Int × Int × Int × Int × Int × List Int × List Int × (List (Int × Int × Bool)) × (List (Int × Int)) × (List (List (Int × Int))) × (List (Int × Int × Int × Int × Bool)) × Int × Int × Int × Int × Int × Int × Bool × Bool × Int × Int × Int × Int × Int × Bool) × List (Int × Int × Int × Int)
abbrev R33_0 : Type := (Int × Int × Int × Int × Int × Int × List Int × List Int × (List (Int × Int × Bool)) × (List (Int × Int)) × (List (List (Int × Int))) × (List (Int × Int × Int × Int × Bool)) × Int × Int × Int × Int × Int × Int × Bool × Bool × Int × Int × Int × Int × Int × Bool) × List (Int × Int × Int × Int)
def v33_0 : Pk G ((Bool × Int) × (Int × Int × Int × Int × Int × Int × List Int × List Int × (List (Int × Int × Bool)) × (List (Int × Int)) × (List (List (Int × Int))) × (List (Int × Int × Int × Int × Bool)) × Int × Int × Int × Int × Int × Int × Bool × Bool × Int × Int × Int × Int × Int × Bool) × List (Int × Int × Int × Int)) := (pk (Sh.snd (Sh.cons (Sh.ptr 0 0) (Sh.cons Sh.bool (Sh.fst (Sh.cons (Sh.int .i64) Sh.nil))))) (Sh.hfix 0 82 (Sh.cons (Sh.int .i64) (Sh.cons (Sh.int .i64) (Sh.cons (Sh.int .i64) (Sh.cons (Sh.int .i64) (Sh.cons (Sh.int .i64) (Sh.cons (Sh.int .i64) (Sh.cons (Sh.ros 23) (Sh.cons (Sh.ros 3) (Sh.cons (Sh.ros 110) (Sh.cons (Sh.ros 25) (Sh.cons (Sh.ros 43) (Sh.cons (Sh.ros 40) (Sh.cons (Sh.int .i64) (Sh.cons (Sh.int .i64) (Sh.cons (Sh.int .u32) (Sh.cons (Sh.int .i64) (Sh.cons (Sh.int .i64) (Sh.cons (Sh.int .i64) (Sh.cons Sh.bool (Sh.cons Sh.bool (Sh.cons (Sh.int .i64) (Sh.cons (Sh.int .i64) (Sh.cons (Sh.int .i64) (Sh.cons (Sh.int .i64) (Sh.cons (Sh.int .i64) (Sh.fst (Sh.cons Sh.bool (Sh.snd (Sh.cons (Sh.snd (Sh.fn (.func 31) Sh.nil (Sh.snd (Sh.cons (Sh.ptr 1 0) Sh.nil)))) Sh.nil))))))))))))))))))))))))))))) (Sh.snd (Sh.hfix 1 62 (Sh.snd (Sh.cons (Sh.osl 2) Sh.nil)) (Sh.fst (Sh.hrow 2 68 Sh.hnil))))))
def w33_0 : Wk G ((Int × Int × Int × Int × Int × Int × List Int × List Int × (List (Int × Int × Bool)) × (List (Int × Int)) × (List (List (Int × Int))) × (List (Int × Int × Int × Int × Bool)) × Int × Int × Int × Int × Int × Int × Bool × Bool × Int × Int × Int × Int × Int × Bool) × List (Int × Int × Int × Int)) := (Wk.one [] (Pk.snd (pk Sh.nil (Sh.hfix 0 82 (Sh.cons (Sh.int .i64) (Sh.cons (Sh.int .i64) (Sh.cons (Sh.int .i64) (Sh.cons (Sh.int .i64) (Sh.cons (Sh.int .i64) (Sh.cons (Sh.int .i64) (Sh.cons (Sh.ros 23) (Sh.cons (Sh.ros 3) (Sh.cons (Sh.ros 110) (Sh.cons (Sh.ros 25) (Sh.cons (Sh.ros 43) (Sh.cons (Sh.ros 40) (Sh.cons (Sh.int .i64) (Sh.cons (Sh.int .i64) (Sh.cons (Sh.int .u32) (Sh.cons (Sh.int .i64) (Sh.cons (Sh.int .i64) (Sh.cons (Sh.int .i64) (Sh.cons Sh.bool (Sh.cons Sh.bool (Sh.cons (Sh.int .i64) (Sh.cons (Sh.int .i64) (Sh.cons (Sh.int .i64) (Sh.cons (Sh.int .i64) (Sh.cons (Sh.int .i64) (Sh.fst (Sh.cons Sh.bool (Sh.snd (Sh.cons (Sh.snd (Sh.fn (.func 31) Sh.nil (Sh.snd (Sh.cons (Sh.ptr 1 0) Sh.nil)))) Sh.nil))))))))))))))))))))))))))))) (Sh.snd (Sh.hfix 1 62 (Sh.snd (Sh.cons (Sh.osl 3) Sh.nil)) (Sh.fst (Sh.hrow 3 68 Sh.hnil))))))))
def F33_0 (v : (Bool × Int) × (Int × Int × Int × Int × Int × Int × List Int × List Int × (List (Int × Int × Bool)) × (List (Int × Int)) × (List (List (Int × Int))) × (List (Int × Int × Int × Int × Bool)) × Int × Int × Int × Int × Int × Int × Bool × Bool × Int × Int × Int × Int × Int × Bool) × List (Int × Int × Int × Int)) : Option ((Int × Int × Int × Int × Int × Int × List Int × List Int × (List (Int × Int × Bool)) × (List (Int × Int)) × (List (List (Int × Int))) × (List (Int × Int × Int × Int × Bool)) × Int × Int × Int × Int × Int × Int × Bool × Bool × Int × Int × Int × Int × Int × Bool) × List (Int × Int × Int × Int)) :=
  bif (!v.2.1.2.2.2.2.2.2.2.2.2.2.2.2.2.2.2.2.2.2.1) then
    some (v.2)
  else
    bif v.2.1.2.2.2.2.2.2.2.2.2.2.2.2.2.2.2.2.2.2.2.2.2.2.2.2.2 then
      some (v.2)
    else
      bif (!v.1.1) then
        let x1907 : Int := (Int.fdiv v.2.1.1 (2 ^ 1))
        bif (decide ((0 : Int) > x1907)) then
          (F50_0 (((0 : Int), v.1.2), ((v.2.1.1, (v.2.1.2.1, (v.2.1.2.2.1, (v.2.1.2.2.2.1, (v.2.1.2.2.2.2.1, (v.2.1.2.2.2.2.2.1, (v.2.1.2.2.2.2.2.2.1, (v.2.1.2.2.2.2.2.2.2.1, (v.2.1.2.2.2.2.2.2.2.2.1, (v.2.1.2.2.2.2.2.2.2.2.2.1, (v.2.1.2.2.2.2.2.2.2.2.2.2.1, (v.2.1.2.2.2.2.2.2.2.2.2.2.2.1, (v.2.1.2.2.2.2.2.2.2.2.2.2.2.2.1, (v.2.1.2.2.2.2.2.2.2.2.2.2.2.2.2.1, (v.2.1.2.2.2.2.2.2.2.2.2.2.2.2.2.2.1, (v.2.1.2.2.2.2.2.2.2.2.2.2.2.2.2.2.2.1, (v.2.1.2.2.2.2.2.2.2.2.2.2.2.2.2.2.2.2.1, (v.2.1.2.2.2.2.2.2.2.2.2.2.2.2.2.2.2.2.2.1, (v.2.1.2.2.2.2.2.2.2.2.2.2.2.2.2.2.2.2.2.2.1, (v.2.1.2.2.2.2.2.2.2.2.2.2.2.2.2.2.2.2.2.2.2.1, (v.2.1.2.2.2.2.2.2.2.2.2.2.2.2.2.2.2.2.2.2.2.2.1, (v.2.1.2.2.2.2.2.2.2.2.2.2.2.2.2.2.2.2.2.2.2.2.2.1, (v.2.1.2.2.2.2.2.2.2.2.2.2.2.2.2.2.2.2.2.2.2.2.2.2.1, ((0 : Int), v.2.1.2.2.2.2.2.2.2.2.2.2.2.2.2.2.2.2.2.2.2.2.2.2.2.2)))))))))))))))))))))))), v.2.2))).bind fun r1908 =>
          some (r1908)
        else
          some ((v.2.1.1, (v.2.1.2.1, (v.2.1.2.2.1, (v.2.1.2.2.2.1, (v.2.1.2.2.2.2.1, (v.2.1.2.2.2.2.2.1, (v.2.1.2.2.2.2.2.2.1, (v.2.1.2.2.2.2.2.2.2.1, (v.2.1.2.2.2.2.2.2.2.2.1, (v.2.1.2.2.2.2.2.2.2.2.2.1, (v.2.1.2.2.2.2.2.2.2.2.2.2.1, (v.2.1.2.2.2.2.2.2.2.2.2.2.2.1, (v.2.1.2.2.2.2.2.2.2.2.2.2.2.2.1, (v.2.1.2.2.2.2.2.2.2.2.2.2.2.2.2.1, (v.2.1.2.2.2.2.2.2.2.2.2.2.2.2.2.2.1, (v.2.1.2.2.2.2.2.2.2.2.2.2.2.2.2.2.2.1, (v.2.1.2.2.2.2.2.2.2.2.2.2.2.2.2.2.2.2.1, (v.2.1.2.2.2.2.2.2.2.2.2.2.2.2.2.2.2.2.2.1, (v.2.1.2.2.2.2.2.2.2.2.2.2.2.2.2.2.2.2.2.2.1, (v.2.1.2.2.2.2.2.2.2.2.2.2.2.2.2.2.2.2.2.2.2.1, (v.2.1.2.2.2.2.2.2.2.2.2.2.2.2.2.2.2.2.2.2.2.2.1, (v.2.1.2.2.2.2.2.2.2.2.2.2.2.2.2.2.2.2.2.2.2.2.2.1, (v.2.1.2.2.2.2.2.2.2.2.2.2.2.2.2.2.2.2.2.2.2.2.2.2.1, ((0 : Int), v.2.1.2.2.2.2.2.2.2.2.2.2.2.2.2.2.2.2.2.2.2.2.2.2.2.2)))))))))))))))))))))))), v.2.2)
      else
        let x1909 : Int := (IntKind.wrap .i64 (v.2.1.2.2.2.2.2.2.2.2.2.2.2.2.2.2.2.2.2.2.2.2.2.2.2.1 + (1 : Int)))
        let x1910 : Int := (Int.fdiv v.2.1.1 (2 ^ 1))
        bif (decide (x1909 > x1910)) then
          (F50_0 (((0 : Int), v.1.2), ((v.2.1.1, (v.2.1.2.1, (v.2.1.2.2.1, (v.2.1.2.2.2.1, (v.2.1.2.2.2.2.1, (v.2.1.2.2.2.2.2.1, (v.2.1.2.2.2.2.2.2.1, (v.2.1.2.2.2.2.2.2.2.1, (v.2.1.2.2.2.2.2.2.2.2.1, (v.2.1.2.2.2.2.2.2.2.2.2.1, (v.2.1.2.2.2.2.2.2.2.2.2.2.1, (v.2.1.2.2.2.2.2.2.2.2.2.2.2.1, (v.2.1.2.2.2.2.2.2.2.2.2.2.2.2.1, (v.2.1.2.2.2.2.2.2.2.2.2.2.2.2.2.1, (v.2.1.2.2.2.2.2.2.2.2.2.2.2.2.2.2.1, (v.2.1.2.2.2.2.2.2.2.2.2.2.2.2.2.2.2.1, (v.2.1.2.2.2.2.2.2.2.2.2.2.2.2.2.2.2.2.1, (v.2.1.2.2.2.2.2.2.2.2.2.2.2.2.2.2.2.2.2.1, (v.2.1.2.2.2.2.2.2.2.2.2.2.2.2.2.2.2.2.2.2.1, (v.2.1.2.2.2.2.2.2.2.2.2.2.2.2.2.2.2.2.2.2.2.1, (v.2.1.2.2.2.2.2.2.2.2.2.2.2.2.2.2.2.2.2.2.2.2.1, (v.2.1.2.2.2.2.2.2.2.2.2.2.2.2.2.2.2.2.2.2.2.2.2.1, (v.2.1.2.2.2.2.2.2.2.2.2.2.2.2.2.2.2.2.2.2.2.2.2.2.1, (x1909, v.2.1.2.2.2.2.2.2.2.2.2.2.2.2.2.2.2.2.2.2.2.2.2.2.2.2)))))))))))))))))))))))), v.2.2))).bind fun r1911 =>
          some (r1911)
        else
          some ((v.2.1.1, (v.2.1.2.1, (v.2.1.2.2.1, (v.2.1.2.2.2.1, (v.2.1.2.2.2.2.1, (v.2.1.2.2.2.2.2.1, (v.2.1.2.2.2.2.2.2.1, (v.2.1.2.2.2.2.2.2.2.1, (v.2.1.2.2.2.2.2.2.2.2.1, (v.2.1.2.2.2.2.2.2.2.2.2.1, (v.2.1.2.2.2.2.2.2.2.2.2.2.1, (v.2.1.2.2.2.2.2.2.2.2.2.2.2.1, (v.2.1.2.2.2.2.2.2.2.2.2.2.2.2.1, (v.2.1.2.2.2.2.2.2.2.2.2.2.2.2.2.1, (v.2.1.2.2.2.2.2.2.2.2.2.2.2.2.2.2.1, (v.2.1.2.2.2.2.2.2.2.2.2.2.2.2.2.2.2.1, (v.2.1.2.2.2.2.2.2.2.2.2.2.2.2.2.2.2.2.1, (v.2.1.2.2.2.2.2.2.2.2.2.2.2.2.2.2.2.2.2.1, (v.2.1.2.2.2.2.2.2.2.2.2.2.2.2.2.2.2.2.2.2.1, (v.2.1.2.2.2.2.2.2.2.2.2.2.2.2.2.2.2.2.2.2.2.1, (v.2.1.2.2.2.2.2.2.2.2.2.2.2.2.2.2.2.2.2.2.2.2.1, (v.2.1.2.2.2.2.2.2.2.2.2.2.2.2.2.2.2.2.2.2.2.2.2.1, (v.2.1.2.2.2.2.2.2.2.2.2.2.2.2.2.2.2.2.2.2.2.2.2.2.1, (x1909, v.2.1.2.2.2.2.2.2.2.2.2.2.2.2.2.2.2.2.2.2.2.2.2.2.2.2)))))))))))))))))))))))), v.2.2)

noncomputable def k33_0 : List (Known Try.prog E) := [Known.of envOk [5, 1, 1] [(.ptr 0 0 82 [.keep, .keep, .keep, .keep, .keep, .keep, (.ros 23), (.ros 3), (.ros 110), (.ros 25), (.ros 43), (.ros 40), .keep, .keep, .keep, .keep, .keep, .keep, .keep, .keep, .keep, .keep, .keep, .keep, .keep, .keep, (.fn (.func 31) [] [(.ptr 1 0 62 [(.own 2 68)])])]), .keep, .keep] v50_0 F50_0 w50_0 ok50_0]
noncomputable def L33_0 (n id : Nat) (st : St G) : Option ((Int × Int × Int × Int × Int × Int × List Int × List Int × (List (Int × Int × Bool)) × (List (Int × Int)) × (List (List (Int × Int))) × (List (Int × Int × Int × Int × Bool)) × Int × Int × Int × Int × Int × Int × Bool × Bool × Int × Int × Int × Int × Int × Bool) × List (Int × Int × Int × Int)) := none
set_option maxRecDepth 100000 in
theorem e33_0 (n : Nat) (v : (Bool × Int) × (Int × Int × Int × Int × Int × Int × List Int × List Int × (List (Int × Int × Bool)) × (List (Int × Int)) × (List (List (Int × Int))) × (List (Int × Int × Int × Int × Bool)) × Int × Int × Int × Int × Int × Int × Bool × Bool × Int × Int × Int × Int × Int × Bool) × List (Int × Int × Int × Int)) : ev Try.prog E (oracle k33_0) Try.f33.ntmps (fun x => mem x []) (L33_0 n) (finA Try.prog E Try.f33.results.toList [(.ptr 1 0 62 [(.own 3 68)]), (.ptr 0 0 82 [.keep, .keep, .keep, .keep, .keep, .keep, (.ros 23), (.ros 3), (.ros 110), (.ros 25), (.ros 43), (.ros 40), .keep, .keep, .keep, .keep, .keep, .keep, .keep, .keep, .keep, .keep, .keep, .keep, .keep, .keep, (.fn (.func 31) [] [(.ptr 1 0 62 [])])])] w33_0.alts) 4000 [.code (Try.f33.body.getD .skip)] (argSt (v33_0.enc v)) = F33_0 v := by kernel_rfl
theorem ok33_0 : FnOk Try.prog E 33 v33_0.enc F33_0 w33_0.enc :=
  fn_known (fn := Try.f33) (c := (Try.f33.body.getD .skip)) Try.func33 (by kernel_rfl) rfl envOk (oracle_ok k33_0) mixed v33_0 F33_0 w33_0 [(.ptr 1 0 62 [(.own 3 68)]), (.ptr 0 0 82 [.keep, .keep, .keep, .keep, .keep, .keep, (.ros 23), (.ros 3), (.ros 110), (.ros 25), (.ros 43), (.ros 40), .keep, .keep, .keep, .keep, .keep, .keep, .keep, .keep, .keep, .keep, .keep, .keep, .keep, .keep, (.fn (.func 31) [] [(.ptr 1 0 62 [])])])] [] 4000 L33_0 (by kernel_rfl)
    (fun _ h => nomatch h) (fun v _ h => ⟨0, (e33_0 _ v).trans h⟩) (fun _ => by kernel_rfl) (fun _ => by kernel_rfl) (fun _ _ => by kernel_rfl)
/- chicane/clock.Tick -/
abbrev A20_0 : Type := (Int × Int × Int × Int × Int × Int × List Int × List Int × (List (Int × Int × Bool)) × (List (Int × Int)) × (List (List (Int × Int))) × (List (Int × Int × Int × Int × Bool)) × Int × Int × Int × Int) × (Int × Int × Bool × Bool × Int × Int × Int × Int × Int × Bool) × (Int × Int) × (Int × Int) × Bool
abbrev R20_0 : Type := (Int × Int × Bool × Bool × Int × Int × Int × Int × Int × Bool) × List (Int × Int × Int × Int)
def v20_0 : Pk G ((Int × Int × Int × Int × Int × Int × List Int × List Int × (List (Int × Int × Bool)) × (List (Int × Int)) × (List (List (Int × Int))) × (List (Int × Int × Int × Int × Bool)) × Int × Int × Int × Int) × (Int × Int × Bool × Bool × Int × Int × Int × Int × Int × Bool) × (Int × Int) × (Int × Int) × Bool) := (Pk.fst (pk (Sh.cons (Sh.agg (Sh.cons (Sh.int .i64) (Sh.cons (Sh.int .i64) (Sh.cons (Sh.int .i64) (Sh.cons (Sh.int .i64) (Sh.cons (Sh.int .i64) (Sh.cons (Sh.int .i64) (Sh.cons (Sh.ros 23) (Sh.cons (Sh.ros 3) (Sh.cons (Sh.ros 110) (Sh.cons (Sh.ros 25) (Sh.cons (Sh.ros 43) (Sh.cons (Sh.ros 40) (Sh.cons (Sh.int .i64) (Sh.cons (Sh.int .i64) (Sh.cons (Sh.int .u32) (Sh.fst (Sh.cons (Sh.int .i64) Sh.nil)))))))))))))))))) (Sh.cons (Sh.agg (Sh.cons (Sh.int .i64) (Sh.cons (Sh.int .i64) (Sh.cons Sh.bool (Sh.cons Sh.bool (Sh.cons (Sh.int .i64) (Sh.cons (Sh.int .i64) (Sh.cons (Sh.int .i64) (Sh.cons (Sh.int .i64) (Sh.cons (Sh.int .i64) (Sh.fst (Sh.cons Sh.bool Sh.nil)))))))))))) (Sh.cons (Sh.agg (Sh.cons (Sh.int .i64) (Sh.fst (Sh.cons (Sh.int .i64) Sh.nil)))) (Sh.cons (Sh.agg (Sh.cons (Sh.int .i64) (Sh.fst (Sh.cons (Sh.int .i64) Sh.nil)))) (Sh.fst (Sh.cons Sh.bool Sh.nil)))))) Sh.hnil))
def w20_0 : Wk G ((Int × Int × Bool × Bool × Int × Int × Int × Int × Int × Bool) × List (Int × Int × Int × Int)) := (Wk.one [(.agg [.keep, .keep, .keep, .keep, .keep, .keep, .keep, .keep, .keep, .keep]), (.own 0 68)] (pk (Sh.fst (Sh.cons (Sh.agg (Sh.cons (Sh.int .i64) (Sh.cons (Sh.int .i64) (Sh.cons Sh.bool (Sh.cons Sh.bool (Sh.cons (Sh.int .i64) (Sh.cons (Sh.int .i64) (Sh.cons (Sh.int .i64) (Sh.cons (Sh.int .i64) (Sh.cons (Sh.int .i64) (Sh.fst (Sh.cons Sh.bool Sh.nil)))))))))))) (Sh.snd (Sh.cons (Sh.osl 0) Sh.nil)))) (Sh.fst (Sh.hrow 0 68 Sh.hnil))))
def c20_0_8 : Pk G ((Bool × Int × Int × Int) × (List (Int × Int × Bool)) × (Int × Int × Int × Int × Int × Int × List Int × List Int × (List (Int × Int × Bool)) × (List (Int × Int)) × (List (List (Int × Int))) × (List (Int × Int × Int × Int × Bool)) × Int × Int × Int × Int × Int × Int × Bool × Bool × Int × Int × Int × Int × Int × Bool) × (List (Int × Int × Int × Int)) × (Int × Int × Bool × Bool × Int × Int × Int × Int × Int × Bool) × (Int × Int × Bool × Bool × Int × Int × Int × Int × Int × Bool) × Int × Int × Int × Int × Int × Int × List Int × List Int × (List (Int × Int × Bool)) × (List (Int × Int)) × (List (List (Int × Int))) × (List (Int × Int × Int × Int × Bool)) × Int × Int × Int × Int) := (pk (Sh.cons Sh.bool (Sh.snd (Sh.cons (Sh.ptr 0 0) (Sh.snd (Sh.cons (Sh.ptr 1 0) (Sh.snd (Sh.cons (Sh.ptr 2 0) (Sh.snd (Sh.cons (Sh.ptr 3 0) (Sh.snd (Sh.cons (Sh.ptr 5 0) (Sh.cons (Sh.int .i64) (Sh.snd (Sh.cons (Sh.osl 6) (Sh.snd (Sh.cons (Sh.osl 6) (Sh.cons (Sh.int .i64) (Sh.fst (Sh.cons (Sh.int .i64) Sh.nil))))))))))))))))))) (Sh.hrow 6 35 (Sh.hfix 5 82 (Sh.cons (Sh.int .i64) (Sh.cons (Sh.int .i64) (Sh.cons (Sh.int .i64) (Sh.cons (Sh.int .i64) (Sh.cons (Sh.int .i64) (Sh.cons (Sh.int .i64) (Sh.cons (Sh.ros 23) (Sh.cons (Sh.ros 3) (Sh.cons (Sh.ros 110) (Sh.cons (Sh.ros 25) (Sh.cons (Sh.ros 43) (Sh.cons (Sh.ros 40) (Sh.cons (Sh.int .i64) (Sh.cons (Sh.int .i64) (Sh.cons (Sh.int .u32) (Sh.cons (Sh.int .i64) (Sh.cons (Sh.int .i64) (Sh.cons (Sh.int .i64) (Sh.cons Sh.bool (Sh.cons Sh.bool (Sh.cons (Sh.int .i64) (Sh.cons (Sh.int .i64) (Sh.cons (Sh.int .i64) (Sh.cons (Sh.int .i64) (Sh.cons (Sh.int .i64) (Sh.fst (Sh.cons Sh.bool (Sh.snd (Sh.cons (Sh.snd (Sh.fn (.func 31) Sh.nil (Sh.snd (Sh.cons (Sh.ptr 3 0) Sh.nil)))) Sh.nil))))))))))))))))))))))))))))) (Sh.snd (Sh.hfix 3 62 (Sh.snd (Sh.cons (Sh.osl 4) Sh.nil)) (Sh.hrow 4 68 (Sh.hfix 2 56 (Sh.cons (Sh.int .i64) (Sh.cons (Sh.int .i64) (Sh.cons Sh.bool (Sh.cons Sh.bool (Sh.cons (Sh.int .i64) (Sh.cons (Sh.int .i64) (Sh.cons (Sh.int .i64) (Sh.cons (Sh.int .i64) (Sh.cons (Sh.int .i64) (Sh.fst (Sh.cons Sh.bool Sh.nil))))))))))) (Sh.hfix 1 56 (Sh.cons (Sh.int .i64) (Sh.cons (Sh.int .i64) (Sh.cons Sh.bool (Sh.cons Sh.bool (Sh.cons (Sh.int .i64) (Sh.cons (Sh.int .i64) (Sh.cons (Sh.int .i64) (Sh.cons (Sh.int .i64) (Sh.cons (Sh.int .i64) (Sh.fst (Sh.cons Sh.bool Sh.nil))))))))))) (Sh.fst (Sh.hfix 0 53 (Sh.cons (Sh.int .i64) (Sh.cons (Sh.int .i64) (Sh.cons (Sh.int .i64) (Sh.cons (Sh.int .i64) (Sh.cons (Sh.int .i64) (Sh.cons (Sh.int .i64) (Sh.cons (Sh.ros 23) (Sh.cons (Sh.ros 3) (Sh.cons (Sh.ros 110) (Sh.cons (Sh.ros 25) (Sh.cons (Sh.ros 43) (Sh.cons (Sh.ros 40) (Sh.cons (Sh.int .i64) (Sh.cons (Sh.int .i64) (Sh.cons (Sh.int .u32) (Sh.fst (Sh.cons (Sh.int .i64) Sh.nil))))))))))))))))) Sh.hnil))))))))))
def B20_0_8 (K : (((Bool × Int × Int × Int) × (List (Int × Int × Bool)) × (Int × Int × Int × Int × Int × Int × List Int × List Int × (List (Int × Int × Bool)) × (List (Int × Int)) × (List (List (Int × Int))) × (List (Int × Int × Int × Int × Bool)) × Int × Int × Int × Int × Int × Int × Bool × Bool × Int × Int × Int × Int × Int × Bool) × (List (Int × Int × Int × Int)) × (Int × Int × Bool × Bool × Int × Int × Int × Int × Int × Bool) × (Int × Int × Bool × Bool × Int × Int × Int × Int × Int × Bool) × Int × Int × Int × Int × Int × Int × List Int × List Int × (List (Int × Int × Bool)) × (List (Int × Int)) × (List (List (Int × Int))) × (List (Int × Int × Int × Int × Bool)) × Int × Int × Int × Int) → Option ((Int × Int × Bool × Bool × Int × Int × Int × Int × Int × Bool) × List (Int × Int × Int × Int)))) (v : (Bool × Int × Int × Int) × (List (Int × Int × Bool)) × (Int × Int × Int × Int × Int × Int × List Int × List Int × (List (Int × Int × Bool)) × (List (Int × Int)) × (List (List (Int × Int))) × (List (Int × Int × Int × Int × Bool)) × Int × Int × Int × Int × Int × Int × Bool × Bool × Int × Int × Int × Int × Int × Bool) × (List (Int × Int × Int × Int)) × (Int × Int × Bool × Bool × Int × Int × Int × Int × Int × Bool) × (Int × Int × Bool × Bool × Int × Int × Int × Int × Int × Bool) × Int × Int × Int × Int × Int × Int × List Int × List Int × (List (Int × Int × Bool)) × (List (Int × Int)) × (List (List (Int × Int))) × (List (Int × Int × Int × Int × Bool)) × Int × Int × Int × Int) : Option ((Int × Int × Bool × Bool × Int × Int × Int × Int × Int × Bool) × List (Int × Int × Int × Int)) :=
  bif (decide (v.1.2.2.2 < v.1.2.2.1)) then
    (idx v.1.2.2.2 (v.2.1).length).bind fun (x1940 : Nat) =>
    ((v.2.1)[x1940]?).bind fun (x1941 : Int × Int × Bool) =>
    let x1942 : Int := (IntKind.wrap .i64 x1941.2.1)
    let x1943 : Int := (IntKind.wrap .i64 (v.1.2.1 + x1942))
    (F32_0 ((x1941, x1943), (v.2.2.1, v.2.2.2.1))).bind fun r1944 =>
    bif r1944.1.2.2.2.2.2.2.2.2.2.2.2.2.2.2.2.2.2.2.2.2.2.2.2.2.2 then
      let x1945 : Int := (IntKind.wrap .i64 (v.1.2.2.2 + (1 : Int)))
      (cutn (0 : Int) x1945 ((v.2.1).length : Int)).bind fun (x1946 : Nat × Nat) =>
      (F12_0 (v.2.2.2.2.2.2.2.2.2.2.2.2.2.2.2.2.2.1, (v.2.2.2.2.2.1.1, (((v.2.1).drop x1946.1).take x1946.2)))).bind fun r1947 =>
      let x1948 : Int := (IntKind.wrap .i64 (v.1.2.1 + (4294967296 : Int)))
      (F33_0 ((v.1.1, x1948), ((r1944.1.1, (r1944.1.2.1, (r1944.1.2.2.1, (r1944.1.2.2.2.1, (r1944.1.2.2.2.2.1, (r1944.1.2.2.2.2.2.1, (r1944.1.2.2.2.2.2.2.1, (r1944.1.2.2.2.2.2.2.2.1, (r1944.1.2.2.2.2.2.2.2.2.1, (r1944.1.2.2.2.2.2.2.2.2.2.1, (r1944.1.2.2.2.2.2.2.2.2.2.2.1, (r1944.1.2.2.2.2.2.2.2.2.2.2.2.1, (r1944.1.2.2.2.2.2.2.2.2.2.2.2.2.1, (r1944.1.2.2.2.2.2.2.2.2.2.2.2.2.2.1, (r1944.1.2.2.2.2.2.2.2.2.2.2.2.2.2.2.1, (r1944.1.2.2.2.2.2.2.2.2.2.2.2.2.2.2.2.1, (r1947, r1944.1.2.2.2.2.2.2.2.2.2.2.2.2.2.2.2.2.2))))))))))))))))), r1944.2))).bind fun r1949 =>
      let x1950 : Int := (IntKind.wrap .i64 (r1949.1.2.2.2.2.2.2.2.2.2.2.2.2.2.2.2.2.2.2.2.2.2.2.2.2.1 + (1 : Int)))
      some ((r1949.1.2.2.2.2.2.2.2.2.2.2.2.2.2.2.2.2.1, (r1949.1.2.2.2.2.2.2.2.2.2.2.2.2.2.2.2.2.2.1, (r1949.1.2.2.2.2.2.2.2.2.2.2.2.2.2.2.2.2.2.2.1, (r1949.1.2.2.2.2.2.2.2.2.2.2.2.2.2.2.2.2.2.2.2.1, (r1949.1.2.2.2.2.2.2.2.2.2.2.2.2.2.2.2.2.2.2.2.2.1, (r1949.1.2.2.2.2.2.2.2.2.2.2.2.2.2.2.2.2.2.2.2.2.2.1, (r1949.1.2.2.2.2.2.2.2.2.2.2.2.2.2.2.2.2.2.2.2.2.2.2.1, (r1949.1.2.2.2.2.2.2.2.2.2.2.2.2.2.2.2.2.2.2.2.2.2.2.2.1, (x1950, r1949.1.2.2.2.2.2.2.2.2.2.2.2.2.2.2.2.2.2.2.2.2.2.2.2.2.2))))))))), r1949.2)
    else
      let x1951 : Int := (IntKind.wrap .i64 (v.1.2.2.2 + (1 : Int)))
      K ((v.1.1, (v.1.2.1, (v.1.2.2.1, x1951))), (v.2.1, (r1944.1, (r1944.2, v.2.2.2.2))))
  else
    (F12_0 (v.2.2.2.2.2.2.2.2.2.2.2.2.2.2.2.2.2.1, (v.2.2.2.2.2.1.1, v.2.1))).bind fun r1952 =>
    let x1953 : Int := (IntKind.wrap .i64 (v.1.2.1 + (4294967296 : Int)))
    (F33_0 ((v.1.1, x1953), ((v.2.2.1.1, (v.2.2.1.2.1, (v.2.2.1.2.2.1, (v.2.2.1.2.2.2.1, (v.2.2.1.2.2.2.2.1, (v.2.2.1.2.2.2.2.2.1, (v.2.2.1.2.2.2.2.2.2.1, (v.2.2.1.2.2.2.2.2.2.2.1, (v.2.2.1.2.2.2.2.2.2.2.2.1, (v.2.2.1.2.2.2.2.2.2.2.2.2.1, (v.2.2.1.2.2.2.2.2.2.2.2.2.2.1, (v.2.2.1.2.2.2.2.2.2.2.2.2.2.2.1, (v.2.2.1.2.2.2.2.2.2.2.2.2.2.2.2.1, (v.2.2.1.2.2.2.2.2.2.2.2.2.2.2.2.2.1, (v.2.2.1.2.2.2.2.2.2.2.2.2.2.2.2.2.2.1, (v.2.2.1.2.2.2.2.2.2.2.2.2.2.2.2.2.2.2.1, (r1952, v.2.2.1.2.2.2.2.2.2.2.2.2.2.2.2.2.2.2.2.2))))))))))))))))), v.2.2.2.1))).bind fun r1954 =>
    let x1955 : Int := (IntKind.wrap .i64 (r1954.1.2.2.2.2.2.2.2.2.2.2.2.2.2.2.2.2.2.2.2.2.2.2.2.2.1 + (1 : Int)))
    some ((r1954.1.2.2.2.2.2.2.2.2.2.2.2.2.2.2.2.2.1, (r1954.1.2.2.2.2.2.2.2.2.2.2.2.2.2.2.2.2.2.1, (r1954.1.2.2.2.2.2.2.2.2.2.2.2.2.2.2.2.2.2.2.1, (r1954.1.2.2.2.2.2.2.2.2.2.2.2.2.2.2.2.2.2.2.2.1, (r1954.1.2.2.2.2.2.2.2.2.2.2.2.2.2.2.2.2.2.2.2.2.1, (r1954.1.2.2.2.2.2.2.2.2.2.2.2.2.2.2.2.2.2.2.2.2.2.1, (r1954.1.2.2.2.2.2.2.2.2.2.2.2.2.2.2.2.2.2.2.2.2.2.2.1, (r1954.1.2.2.2.2.2.2.2.2.2.2.2.2.2.2.2.2.2.2.2.2.2.2.2.1, (x1955, r1954.1.2.2.2.2.2.2.2.2.2.2.2.2.2.2.2.2.2.2.2.2.2.2.2.2.2))))))))), r1954.2)

def E20_0 (K : (((Bool × Int × Int × Int) × (List (Int × Int × Bool)) × (Int × Int × Int × Int × Int × Int × List Int × List Int × (List (Int × Int × Bool)) × (List (Int × Int)) × (List (List (Int × Int))) × (List (Int × Int × Int × Int × Bool)) × Int × Int × Int × Int × Int × Int × Bool × Bool × Int × Int × Int × Int × Int × Bool) × (List (Int × Int × Int × Int)) × (Int × Int × Bool × Bool × Int × Int × Int × Int × Int × Bool) × (Int × Int × Bool × Bool × Int × Int × Int × Int × Int × Bool) × Int × Int × Int × Int × Int × Int × List Int × List Int × (List (Int × Int × Bool)) × (List (Int × Int)) × (List (List (Int × Int))) × (List (Int × Int × Int × Int × Bool)) × Int × Int × Int × Int) → Option ((Int × Int × Bool × Bool × Int × Int × Int × Int × Int × Bool) × List (Int × Int × Int × Int)))) (v : (Int × Int × Int × Int × Int × Int × List Int × List Int × (List (Int × Int × Bool)) × (List (Int × Int)) × (List (List (Int × Int))) × (List (Int × Int × Int × Int × Bool)) × Int × Int × Int × Int) × (Int × Int × Bool × Bool × Int × Int × Int × Int × Int × Bool) × (Int × Int) × (Int × Int) × Bool) : Option ((Int × Int × Bool × Bool × Int × Int × Int × Int × Int × Bool) × List (Int × Int × Int × Int)) :=
  bif v.2.1.2.2.2.2.2.2.2.2.2 then
    some (v.2.1, ([] : List (Int × Int × Int × Int)))
  else
    bif (decide (v.2.1.1 < (0 : Int))) then
      some (v.2.1, ([] : List (Int × Int × Int × Int)))
    else
      bif (decide (v.2.1.1 ≥ ((v.1.2.2.2.2.2.2.2.2.2.2.2.1).length : Int))) then
        some (v.2.1, ([] : List (Int × Int × Int × Int)))
      else
        let x1938 : Int := (IntKind.wrap .i64 (v.2.1.2.2.2.2.2.2.2.2.1 * (4294967296 : Int)))
        (F10_0 (v.1.2.2.2.2.2.2.2.2.2.2.2.1, (v.2.1.1, (v.2.2.1, v.2.2.2.1)))).bind fun r1939 =>
        K ((v.2.2.2.2, (x1938, (((r1939).length : Int), (0 : Int)))), (r1939, ((v.1.1, (v.1.2.1, (v.1.2.2.1, (v.1.2.2.2.1, (v.1.2.2.2.2.1, (v.1.2.2.2.2.2.1, (v.1.2.2.2.2.2.2.1, (v.1.2.2.2.2.2.2.2.1, (v.1.2.2.2.2.2.2.2.2.1, (v.1.2.2.2.2.2.2.2.2.2.1, (v.1.2.2.2.2.2.2.2.2.2.2.1, (v.1.2.2.2.2.2.2.2.2.2.2.2.1, (v.1.2.2.2.2.2.2.2.2.2.2.2.2.1, (v.1.2.2.2.2.2.2.2.2.2.2.2.2.2.1, (v.1.2.2.2.2.2.2.2.2.2.2.2.2.2.2.1, (v.1.2.2.2.2.2.2.2.2.2.2.2.2.2.2.2, v.2.1)))))))))))))))), (([] : List (Int × Int × Int × Int)), (((0 : Int), ((0 : Int), (false, (false, ((0 : Int), ((0 : Int), ((0 : Int), ((0 : Int), ((0 : Int), false))))))))), (v.2.1, v.1))))))

def K20_0 : Nat → (((Bool × Int × Int × Int) × (List (Int × Int × Bool)) × (Int × Int × Int × Int × Int × Int × List Int × List Int × (List (Int × Int × Bool)) × (List (Int × Int)) × (List (List (Int × Int))) × (List (Int × Int × Int × Int × Bool)) × Int × Int × Int × Int × Int × Int × Bool × Bool × Int × Int × Int × Int × Int × Bool) × (List (Int × Int × Int × Int)) × (Int × Int × Bool × Bool × Int × Int × Int × Int × Int × Bool) × (Int × Int × Bool × Bool × Int × Int × Int × Int × Int × Bool) × Int × Int × Int × Int × Int × Int × List Int × List Int × (List (Int × Int × Bool)) × (List (Int × Int)) × (List (List (Int × Int))) × (List (Int × Int × Int × Int × Bool)) × Int × Int × Int × Int) → Option ((Int × Int × Bool × Bool × Int × Int × Int × Int × Int × Bool) × List (Int × Int × Int × Int)))
  | 0 => (fun _ => none)
  | n + 1 => (B20_0_8 (K20_0 n))
def fuel20_0 (v : (Int × Int × Int × Int × Int × Int × List Int × List Int × (List (Int × Int × Bool)) × (List (Int × Int)) × (List (List (Int × Int))) × (List (Int × Int × Int × Int × Bool)) × Int × Int × Int × Int) × (Int × Int × Bool × Bool × Int × Int × Int × Int × Int × Bool) × (Int × Int) × (Int × Int) × Bool) : Nat := 1000
def F20_0 (v : (Int × Int × Int × Int × Int × Int × List Int × List Int × (List (Int × Int × Bool)) × (List (Int × Int)) × (List (List (Int × Int))) × (List (Int × Int × Int × Int × Bool)) × Int × Int × Int × Int) × (Int × Int × Bool × Bool × Int × Int × Int × Int × Int × Bool) × (Int × Int) × (Int × Int) × Bool) : Option ((Int × Int × Bool × Bool × Int × Int × Int × Int × Int × Bool) × List (Int × Int × Int × Int)) := E20_0 (K20_0 (fuel20_0 v)) v
noncomputable def k20_0 : List (Known Try.prog E) := [Known.of envOk [7, 1, 9, 9] [(.ros 40), .keep, (.agg [.keep, .keep]), (.agg [.keep, .keep])] v10_0 F10_0 w10_0 ok10_0, Known.of envOk [5, 9, 1] [(.ptr 0 0 82 [.keep, .keep, .keep, .keep, .keep, .keep, (.ros 23), (.ros 3), (.ros 110), (.ros 25), (.ros 43), (.ros 40), .keep, .keep, .keep, .keep, .keep, .keep, .keep, .keep, .keep, .keep, .keep, .keep, .keep, .keep, (.fn (.func 31) [] [(.ptr 1 0 62 [(.own 2 68)])])]), (.agg [.keep, .keep, .keep]), .keep] v32_0 F32_0 w32_0 ok32_0, Known.of envOk [7, 1, 7] [(.ros 40), .keep, (.ros 35)] v12_0 F12_0 w12_0 ok12_0, Known.of envOk [5, 2, 1] [(.ptr 0 0 82 [.keep, .keep, .keep, .keep, .keep, .keep, (.ros 23), (.ros 3), (.ros 110), (.ros 25), (.ros 43), (.ros 40), .keep, .keep, .keep, .keep, .keep, .keep, .keep, .keep, .keep, .keep, .keep, .keep, .keep, .keep, (.fn (.func 31) [] [(.ptr 1 0 62 [(.own 2 68)])])]), .keep, .keep] v33_0 F33_0 w33_0 ok33_0]
def s20_0_8 : List (Nat × Pat) := [(4, .keep), (5, (.ptr 0 0 53 [.keep, .keep, .keep, .keep, .keep, .keep, (.ros 23), (.ros 3), (.ros 110), (.ros 25), (.ros 43), (.ros 40), .keep, .keep, .keep, .keep])), (6, (.ptr 1 0 56 [.keep, .keep, .keep, .keep, .keep, .keep, .keep, .keep, .keep, .keep])), (10, (.ptr 2 0 56 [.keep, .keep, .keep, .keep, .keep, .keep, .keep, .keep, .keep, .keep])), (12, (.ptr 3 0 62 [(.own 4 68)])), (13, (.ptr 5 0 82 [.keep, .keep, .keep, .keep, .keep, .keep, (.ros 23), (.ros 3), (.ros 110), (.ros 25), (.ros 43), (.ros 40), .keep, .keep, .keep, .keep, .keep, .keep, .keep, .keep, .keep, .keep, .keep, .keep, .keep, .keep, (.fn (.func 31) [] [(.ptr 3 0 62 [])])])), (14, .keep), (15, (.own 6 35)), (49, (.own 6 35)), (50, .keep), (51, .keep)]
noncomputable def L20_0 (n id : Nat) (st : St G) : Option ((Int × Int × Bool × Bool × Int × Int × Int × Int × Int × Bool) × List (Int × Int × Int × Int)) := match Nat.beq id 8 with | true => cutK Try.prog s20_0_8 [] c20_0_8.dec (K20_0 n) st | false => none
set_option maxRecDepth 100000 in
theorem e20_0 (n : Nat) (v : (Int × Int × Int × Int × Int × Int × List Int × List Int × (List (Int × Int × Bool)) × (List (Int × Int)) × (List (List (Int × Int))) × (List (Int × Int × Int × Int × Bool)) × Int × Int × Int × Int) × (Int × Int × Bool × Bool × Int × Int × Int × Int × Int × Bool) × (Int × Int) × (Int × Int) × Bool) : ev Try.prog E (oracle k20_0) Try.f20.ntmps (fun x => mem x [8]) (L20_0 n) (finA Try.prog E Try.f20.results.toList [] w20_0.alts) 4000 [.code (Try.f20.body.getD .skip)] (argSt (v20_0.enc v)) = E20_0 (K20_0 n) v := by kernel_rfl
set_option maxRecDepth 100000 in
theorem b20_0_8 (n : Nat) (v : (Bool × Int × Int × Int) × (List (Int × Int × Bool)) × (Int × Int × Int × Int × Int × Int × List Int × List Int × (List (Int × Int × Bool)) × (List (Int × Int)) × (List (List (Int × Int))) × (List (Int × Int × Int × Int × Bool)) × Int × Int × Int × Int × Int × Int × Bool × Bool × Int × Int × Int × Int × Int × Bool) × (List (Int × Int × Int × Int)) × (Int × Int × Bool × Bool × Int × Int × Int × Int × Int × Bool) × (Int × Int × Bool × Bool × Int × Int × Int × Int × Int × Bool) × Int × Int × Int × Int × Int × Int × List Int × List Int × (List (Int × Int × Bool)) × (List (Int × Int)) × (List (List (Int × Int))) × (List (Int × Int × Int × Int × Bool)) × Int × Int × Int × Int) : evCut Try.prog E (oracle k20_0) Try.f20.ntmps (fun x => mem x [8]) (L20_0 n) (finA Try.prog E Try.f20.results.toList [] w20_0.alts) 4000 (todoAt (Try.f20.body.getD .skip) 8) (cutSt s20_0_8 (c20_0_8.enc v)) = B20_0_8 (K20_0 n) v := by kernel_rfl
theorem ok20_0 : FnOk Try.prog E 20 v20_0.enc F20_0 w20_0.enc :=
  fn_known (fn := Try.f20) (c := (Try.f20.body.getD .skip)) Try.func20 (by kernel_rfl) rfl envOk (oracle_ok k20_0) mixed v20_0 F20_0 w20_0 [] [8] 4000 L20_0 (by kernel_rfl)
    (List.forall_mem_cons.2 ⟨⟨_, s20_0_8, c20_0_8.dec, c20_0_8.enc, fun n => (K20_0 n), c20_0_8.ok, fun _ _ => rfl, fun _ => rfl, fun n v _ h => (b20_0_8 n v).trans h⟩, fun _ h => (nomatch h)⟩) (fun v _ h => ⟨fuel20_0 v, (e20_0 _ v).trans h⟩) (fun _ => by kernel_rfl) (fun _ => by kernel_rfl) (fun _ _ => by kernel_rfl)
/- chicane/clock.Clean -/
abbrev A18_0 : Type := Int × Int × Bool × Bool × Int × Int × Int × Int × Int × Bool
abbrev R18_0 : Type := Bool
def v18_0 : Pk G (Int × Int × Bool × Bool × Int × Int × Int × Int × Int × Bool) := (Pk.fst (pk (Sh.fst (Sh.cons (Sh.agg (Sh.cons (Sh.int .i64) (Sh.cons (Sh.int .i64) (Sh.cons Sh.bool (Sh.cons Sh.bool (Sh.cons (Sh.int .i64) (Sh.cons (Sh.int .i64) (Sh.cons (Sh.int .i64) (Sh.cons (Sh.int .i64) (Sh.cons (Sh.int .i64) (Sh.fst (Sh.cons Sh.bool Sh.nil)))))))))))) Sh.nil)) Sh.hnil))
def w18_0 : Wk G Bool := (Wk.one [.keep] (Pk.fst (pk (Sh.fst (Sh.cons Sh.bool Sh.nil)) Sh.hnil)))
def F18_0 (v : Int × Int × Bool × Bool × Int × Int × Int × Int × Int × Bool) : Option Bool :=
  let x1970 : Int := (if v.2.1 < v.1 then v.2.1 else v.1)
  let x1971 : Int := (if v.2.2.2.2.2.2.2.1 < x1970 then v.2.2.2.2.2.2.2.1 else x1970)
  bif (decide (x1971 < (0 : Int))) then
    some (false)
  else
    let x1972 : Int := (if v.2.2.2.2.2.2.2.1 > v.2.1 then v.2.2.2.2.2.2.2.1 else v.2.1)
    bif (decide (x1972 > v.2.2.2.2.2.2.2.2.1)) then
      some (false)
    else
      bif (decide (v.2.2.2.2.2.2.2.2.1 > (16777216 : Int))) then
        some (false)
      else
        bif (!v.2.2.1) then
          let x1973 : Bool := ((v.1 == v.1) && ((v.2.1 == (0 : Int)) && ((v.2.2.1 == false) && ((v.2.2.2.1 == false) && ((v.2.2.2.2.1 == (0 : Int)) && ((v.2.2.2.2.2.1 == (0 : Int)) && ((v.2.2.2.2.2.2.1 == (0 : Int)) && ((v.2.2.2.2.2.2.2.1 == (0 : Int)) && ((v.2.2.2.2.2.2.2.2.1 == v.2.2.2.2.2.2.2.2.1) && ((v.2.2.2.2.2.2.2.2.2 == false) && true))))))))))
          some (x1973)
        else
          bif (decide ((0 : Int) ≤ v.2.2.2.2.1)) then
            bif (decide (v.2.2.2.2.1 ≤ v.2.2.2.2.2.1)) then
              bif (decide (v.2.2.2.2.2.1 ≤ v.2.2.2.2.2.2.1)) then
                let x1974 : Int := (IntKind.wrap .i64 (v.2.2.2.2.2.2.2.2.1 * (4294967296 : Int)))
                some (decide (v.2.2.2.2.2.2.1 ≤ x1974))
              else
                some (false)
            else
              some (false)
          else
            some (false)

noncomputable def k18_0 : List (Known Try.prog E) := []
noncomputable def L18_0 (n id : Nat) (st : St G) : Option Bool := none
set_option maxRecDepth 100000 in
theorem e18_0 (n : Nat) (v : Int × Int × Bool × Bool × Int × Int × Int × Int × Int × Bool) : ev Try.prog E (oracle k18_0) Try.f18.ntmps (fun x => mem x []) (L18_0 n) (finA Try.prog E Try.f18.results.toList [] w18_0.alts) 4000 [.code (Try.f18.body.getD .skip)] (argSt (v18_0.enc v)) = F18_0 v := by kernel_rfl
theorem ok18_0 : FnOk Try.prog E 18 v18_0.enc F18_0 w18_0.enc :=
  fn_known (fn := Try.f18) (c := (Try.f18.body.getD .skip)) Try.func18 (by kernel_rfl) rfl envOk (oracle_ok k18_0) mixed v18_0 F18_0 w18_0 [] [] 4000 L18_0 (by kernel_rfl)
    (fun _ h => nomatch h) (fun v _ h => ⟨0, (e18_0 _ v).trans h⟩) (fun _ => by kernel_rfl) (fun _ => by kernel_rfl) (fun _ _ => by kernel_rfl)
/- chicane/chicanelaw31.awake -/
abbrev A19_0 : Type := Unit
abbrev R19_0 : Type := Bool
def v19_0 : Pk G Unit := (Pk.snd (pk Sh.nil Sh.hnil))
def w19_0 : Wk G Bool := (Wk.one [.keep] (Pk.fst (pk (Sh.fst (Sh.cons Sh.bool Sh.nil)) Sh.hnil)))
def F19_0 (v : Unit) : Option Bool :=
  (F29_0 ()).bind fun r1986 =>
  (F30_0 ((35 : Int), (10 : Int))).bind fun r1987 =>
  (F30_0 ((37 : Int), (10 : Int))).bind fun r1988 =>
  (F20_0 ((r1986.1.1, (r1986.1.2.1, (r1986.1.2.2.1, (r1986.1.2.2.2.1, (r1986.1.2.2.2.2.1, (r1986.1.2.2.2.2.2.1, (r1986.2.2.2.2.2.2, (r1986.2.2.2.2.2.1, (r1986.2.2.2.2.1, (r1986.2.2.2.1, (r1986.2.2.1, (r1986.2.1, r1986.1.2.2.2.2.2.2)))))))))))), (((0 : Int), ((0 : Int), (false, (false, ((0 : Int), ((0 : Int), ((0 : Int), ((0 : Int), ((0 : Int), false))))))))), (r1987, (r1988, false))))).bind fun r1989 =>
  bif (((r1989.2).length : Int) == (1 : Int)) then
    (idx (0 : Int) (r1989.2).length).bind fun (x1990 : Nat) =>
    ((r1989.2)[x1990]?).bind fun (x1991 : Int × Int × Int × Int) =>
    let x1992 : Bool := ((x1991.1 == (1 : Int)) && ((x1991.2.1 == (0 : Int)) && ((x1991.2.2.1 == (2147483648 : Int)) && ((x1991.2.2.2 == (0 : Int)) && true))))
    bif x1992 then
      bif r1989.1.2.2.1 then
        bif r1989.1.2.2.2.1 then
          bif (r1989.1.1 == (1 : Int)) then
            bif (r1989.1.2.2.2.2.2.2.2.2.1 == (1 : Int)) then
              bif (r1989.1.2.2.2.2.1 == (2147483648 : Int)) then
                (F18_0 r1989.1).bind fun r1993 =>
                bif r1993 then
                  (F18_0 ((0 : Int), ((0 : Int), (false, (false, ((0 : Int), ((0 : Int), ((0 : Int), ((0 : Int), ((-1 : Int), false)))))))))).bind fun r1994 =>
                  some (!r1994)
                else
                  some (false)
              else
                some (false)
            else
              some (false)
          else
            some (false)
        else
          some (false)
      else
        some (false)
    else
      some (false)
  else
    some (false)

noncomputable def k19_0 : List (Known Try.prog E) := [Known.of envOk [] [] v29_0 F29_0 w29_0 ok29_0, Known.of envOk [1, 1] [.keep, .keep] v30_0 F30_0 w30_0 ok30_0, Known.of envOk [9, 9, 9, 9, 2] [(.agg [.keep, .keep, .keep, .keep, .keep, .keep, (.ros 23), (.ros 3), (.ros 110), (.ros 25), (.ros 43), (.ros 40), .keep, .keep, .keep, .keep]), (.agg [.keep, .keep, .keep, .keep, .keep, .keep, .keep, .keep, .keep, .keep]), (.agg [.keep, .keep]), (.agg [.keep, .keep]), .keep] v20_0 F20_0 w20_0 ok20_0, Known.of envOk [9] [(.agg [.keep, .keep, .keep, .keep, .keep, .keep, .keep, .keep, .keep, .keep])] v18_0 F18_0 w18_0 ok18_0]
noncomputable def L19_0 (n id : Nat) (st : St G) : Option Bool := none
set_option maxRecDepth 100000 in
theorem e19_0 (n : Nat) (v : Unit) : ev Try.prog E (oracle k19_0) Try.f19.ntmps (fun x => mem x []) (L19_0 n) (finA Try.prog E Try.f19.results.toList [] w19_0.alts) 4000 [.code (Try.f19.body.getD .skip)] (argSt (v19_0.enc v)) = F19_0 v := by kernel_rfl
theorem ok19_0 : FnOk Try.prog E 19 v19_0.enc F19_0 w19_0.enc :=
  fn_known (fn := Try.f19) (c := (Try.f19.body.getD .skip)) Try.func19 (by kernel_rfl) rfl envOk (oracle_ok k19_0) mixed v19_0 F19_0 w19_0 [] [] 4000 L19_0 (by kernel_rfl)
    (fun _ h => nomatch h) (fun v _ h => ⟨0, (e19_0 _ v).trans h⟩) (fun _ => by kernel_rfl) (fun _ => by kernel_rfl) (fun _ _ => by kernel_rfl)
/- chicane/chicanelaw31.ClockClean -/
abbrev A7_0 : Type := (Int × Int × Int × Int × Int × Int × List Int × List Int × (List (Int × Int × Bool)) × (List (Int × Int)) × (List (List (Int × Int))) × (List (Int × Int × Int × Int × Bool)) × Int × Int × Int × Int) × (Int × Int × Bool × Bool × Int × Int × Int × Int × Int × Bool) × (List (Int × Int)) × Int
abbrev R7_0 : Type := Bool
def v7_0 : Pk G ((Int × Int × Int × Int × Int × Int × List Int × List Int × (List (Int × Int × Bool)) × (List (Int × Int)) × (List (List (Int × Int))) × (List (Int × Int × Int × Int × Bool)) × Int × Int × Int × Int) × (Int × Int × Bool × Bool × Int × Int × Int × Int × Int × Bool) × (List (Int × Int)) × Int) := (Pk.fst (pk (Sh.cons (Sh.agg (Sh.cons (Sh.int .i64) (Sh.cons (Sh.int .i64) (Sh.cons (Sh.int .i64) (Sh.cons (Sh.int .i64) (Sh.cons (Sh.int .i64) (Sh.cons (Sh.int .i64) (Sh.cons (Sh.ros 23) (Sh.cons (Sh.ros 3) (Sh.cons (Sh.ros 110) (Sh.cons (Sh.ros 25) (Sh.cons (Sh.ros 43) (Sh.cons (Sh.ros 40) (Sh.cons (Sh.int .i64) (Sh.cons (Sh.int .i64) (Sh.cons (Sh.int .u32) (Sh.fst (Sh.cons (Sh.int .i64) Sh.nil)))))))))))))))))) (Sh.cons (Sh.agg (Sh.cons (Sh.int .i64) (Sh.cons (Sh.int .i64) (Sh.cons Sh.bool (Sh.cons Sh.bool (Sh.cons (Sh.int .i64) (Sh.cons (Sh.int .i64) (Sh.cons (Sh.int .i64) (Sh.cons (Sh.int .i64) (Sh.cons (Sh.int .i64) (Sh.fst (Sh.cons Sh.bool Sh.nil)))))))))))) (Sh.fst (Sh.cons (Sh.agg (Sh.cons (Sh.ros 25) (Sh.fst (Sh.cons (Sh.int .u64) Sh.nil)))) Sh.nil)))) Sh.hnil))
def w7_0 : Wk G Bool := (Wk.one [.keep] (Pk.fst (pk (Sh.fst (Sh.cons Sh.bool Sh.nil)) Sh.hnil)))
def c7_0_4 : Pk G (Int × ((List (Int × Int)) × Int) × (Int × Int × Bool × Bool × Int × Int × Int × Int × Int × Bool) × Int × Int × Int × Int × Int × Int × List Int × List Int × (List (Int × Int × Bool)) × (List (Int × Int)) × (List (List (Int × Int))) × (List (Int × Int × Int × Int × Bool)) × Int × Int × Int × Int) := (pk (Sh.snd (Sh.cons (Sh.ptr 0 0) (Sh.snd (Sh.cons (Sh.ptr 1 0) (Sh.snd (Sh.cons (Sh.ptr 2 0) (Sh.fst (Sh.cons (Sh.int .i64) Sh.nil)))))))) (Sh.hfix 2 59 (Sh.cons (Sh.ros 25) (Sh.fst (Sh.cons (Sh.int .u64) Sh.nil))) (Sh.hfix 1 56 (Sh.cons (Sh.int .i64) (Sh.cons (Sh.int .i64) (Sh.cons Sh.bool (Sh.cons Sh.bool (Sh.cons (Sh.int .i64) (Sh.cons (Sh.int .i64) (Sh.cons (Sh.int .i64) (Sh.cons (Sh.int .i64) (Sh.cons (Sh.int .i64) (Sh.fst (Sh.cons Sh.bool Sh.nil))))))))))) (Sh.fst (Sh.hfix 0 53 (Sh.cons (Sh.int .i64) (Sh.cons (Sh.int .i64) (Sh.cons (Sh.int .i64) (Sh.cons (Sh.int .i64) (Sh.cons (Sh.int .i64) (Sh.cons (Sh.int .i64) (Sh.cons (Sh.ros 23) (Sh.cons (Sh.ros 3) (Sh.cons (Sh.ros 110) (Sh.cons (Sh.ros 25) (Sh.cons (Sh.ros 43) (Sh.cons (Sh.ros 40) (Sh.cons (Sh.int .i64) (Sh.cons (Sh.int .i64) (Sh.cons (Sh.int .u32) (Sh.fst (Sh.cons (Sh.int .i64) Sh.nil))))))))))))))))) Sh.hnil)))))
def B7_0_4 (K : ((Int × ((List (Int × Int)) × Int) × (Int × Int × Bool × Bool × Int × Int × Int × Int × Int × Bool) × Int × Int × Int × Int × Int × Int × List Int × List Int × (List (Int × Int × Bool)) × (List (Int × Int)) × (List (List (Int × Int))) × (List (Int × Int × Int × Int × Bool)) × Int × Int × Int × Int) → Option Bool)) (v : Int × ((List (Int × Int)) × Int) × (Int × Int × Bool × Bool × Int × Int × Int × Int × Int × Bool) × Int × Int × Int × Int × Int × Int × List Int × List Int × (List (Int × Int × Bool)) × (List (Int × Int)) × (List (List (Int × Int))) × (List (Int × Int × Int × Int × Bool)) × Int × Int × Int × Int) : Option Bool :=
  bif (decide (v.1 < ((v.2.1.1).length : Int))) then
    let x2051 : Int := (IntKind.wrap .i64 (v.1 - (1 : Int)))
    (rdx v.2.1.1 x2051).bind fun (x2052 : Int × Int) =>
    (rdx v.2.1.1 v.1).bind fun (x2053 : Int × Int) =>
    let x2054 : Int := (Int.tmod v.1 (64 : Int))
    let x2055 : Int := (IntKind.wrap .u64 x2054)
    (chk (decide (0 ≤ x2055))).bind fun _ =>
    let x2056 : Int := (Int.fdiv v.2.1.2 (2 ^ min (x2055).toNat 64))
    let x2057 : Int := (Int.tmod x2056 (2 : Int))
    (F20_0 (v.2.2.2, (v.2.2.1, (x2052, (x2053, (x2057 == (1 : Int))))))).bind fun r2058 =>
    (F18_0 r2058.1).bind fun r2059 =>
    bif (!r2059) then
      some (false)
    else
      bif (decide (r2058.1.1 ≥ ((v.2.2.2.2.2.2.2.2.2.2.2.2.2.2.1).length : Int))) then
        some (false)
      else
        bif v.2.2.1.2.2.2.2.2.2.2.2.2 then
          let x2060 : Bool := ((r2058.1.1 == v.2.2.1.1) && ((r2058.1.2.1 == v.2.2.1.2.1) && ((r2058.1.2.2.1 == v.2.2.1.2.2.1) && ((r2058.1.2.2.2.1 == v.2.2.1.2.2.2.1) && ((r2058.1.2.2.2.2.1 == v.2.2.1.2.2.2.2.1) && ((r2058.1.2.2.2.2.2.1 == v.2.2.1.2.2.2.2.2.1) && ((r2058.1.2.2.2.2.2.2.1 == v.2.2.1.2.2.2.2.2.2.1) && ((r2058.1.2.2.2.2.2.2.2.1 == v.2.2.1.2.2.2.2.2.2.2.1) && ((r2058.1.2.2.2.2.2.2.2.2.1 == v.2.2.1.2.2.2.2.2.2.2.2.1) && ((r2058.1.2.2.2.2.2.2.2.2.2 == v.2.2.1.2.2.2.2.2.2.2.2.2) && true))))))))))
          bif (!x2060) then
            some (false)
          else
            bif (!v.2.2.1.2.2.2.2.2.2.2.2.2) then
              let x2061 : Int := (IntKind.wrap .i64 (v.2.2.1.2.2.2.2.2.2.2.2.1 + (1 : Int)))
              bif (r2058.1.2.2.2.2.2.2.2.2.1 != x2061) then
                some (false)
              else
                let x2062 : Int := (IntKind.wrap .i64 (v.1 + (1 : Int)))
                K (x2062, (v.2.1, (r2058.1, v.2.2.2)))
            else
              let x2063 : Int := (IntKind.wrap .i64 (v.1 + (1 : Int)))
              K (x2063, (v.2.1, (r2058.1, v.2.2.2)))
        else
          bif (!v.2.2.1.2.2.2.2.2.2.2.2.2) then
            let x2064 : Int := (IntKind.wrap .i64 (v.2.2.1.2.2.2.2.2.2.2.2.1 + (1 : Int)))
            bif (r2058.1.2.2.2.2.2.2.2.2.1 != x2064) then
              some (false)
            else
              let x2065 : Int := (IntKind.wrap .i64 (v.1 + (1 : Int)))
              K (x2065, (v.2.1, (r2058.1, v.2.2.2)))
          else
            let x2066 : Int := (IntKind.wrap .i64 (v.1 + (1 : Int)))
            K (x2066, (v.2.1, (r2058.1, v.2.2.2)))
  else
    (F19_0 ()).bind fun r2067 =>
    some (r2067)

def E7_0 (K : ((Int × ((List (Int × Int)) × Int) × (Int × Int × Bool × Bool × Int × Int × Int × Int × Int × Bool) × Int × Int × Int × Int × Int × Int × List Int × List Int × (List (Int × Int × Bool)) × (List (Int × Int)) × (List (List (Int × Int))) × (List (Int × Int × Int × Int × Bool)) × Int × Int × Int × Int) → Option Bool)) (v : (Int × Int × Int × Int × Int × Int × List Int × List Int × (List (Int × Int × Bool)) × (List (Int × Int)) × (List (List (Int × Int))) × (List (Int × Int × Int × Int × Bool)) × Int × Int × Int × Int) × (Int × Int × Bool × Bool × Int × Int × Int × Int × Int × Bool) × (List (Int × Int)) × Int) : Option Bool :=
  (F17_0 v.1).bind fun r2044 =>
  bif (!r2044) then
    (F19_0 ()).bind fun r2045 =>
    some (r2045)
  else
    bif (decide (((v.2.2.1).length : Int) > (300 : Int))) then
      (F19_0 ()).bind fun r2046 =>
      some (r2046)
    else
      (F18_0 v.2.1).bind fun r2047 =>
      bif (!r2047) then
        (F19_0 ()).bind fun r2048 =>
        some (r2048)
      else
        bif (decide (v.2.1.1 ≥ ((v.1.2.2.2.2.2.2.2.2.2.2.2.1).length : Int))) then
          (F19_0 ()).bind fun r2049 =>
          some (r2049)
        else
          bif (decide (v.2.1.2.2.2.2.2.2.2.2.1 > (1000000 : Int))) then
            (F19_0 ()).bind fun r2050 =>
            some (r2050)
          else
            K ((1 : Int), (v.2.2, (v.2.1, v.1)))

def K7_0 : Nat → ((Int × ((List (Int × Int)) × Int) × (Int × Int × Bool × Bool × Int × Int × Int × Int × Int × Bool) × Int × Int × Int × Int × Int × Int × List Int × List Int × (List (Int × Int × Bool)) × (List (Int × Int)) × (List (List (Int × Int))) × (List (Int × Int × Int × Int × Bool)) × Int × Int × Int × Int) → Option Bool)
  | 0 => (fun _ => none)
  | n + 1 => (B7_0_4 (K7_0 n))
def fuel7_0 (v : (Int × Int × Int × Int × Int × Int × List Int × List Int × (List (Int × Int × Bool)) × (List (Int × Int)) × (List (List (Int × Int))) × (List (Int × Int × Int × Int × Bool)) × Int × Int × Int × Int) × (Int × Int × Bool × Bool × Int × Int × Int × Int × Int × Bool) × (List (Int × Int)) × Int) : Nat := 1000
def F7_0 (v : (Int × Int × Int × Int × Int × Int × List Int × List Int × (List (Int × Int × Bool)) × (List (Int × Int)) × (List (List (Int × Int))) × (List (Int × Int × Int × Int × Bool)) × Int × Int × Int × Int) × (Int × Int × Bool × Bool × Int × Int × Int × Int × Int × Bool) × (List (Int × Int)) × Int) : Option Bool := E7_0 (K7_0 (fuel7_0 v)) v
noncomputable def k7_0 : List (Known Try.prog E) := [Known.of envOk [9] [(.agg [.keep, .keep, .keep, .keep, .keep, .keep, (.ros 23), (.ros 3), (.ros 110), (.ros 25), (.ros 43), (.ros 40), .keep, .keep, .keep, .keep])] v17_0 F17_0 w17_0 ok17_0, Known.of envOk [] [] v19_0 F19_0 w19_0 ok19_0, Known.of envOk [9] [(.agg [.keep, .keep, .keep, .keep, .keep, .keep, .keep, .keep, .keep, .keep])] v18_0 F18_0 w18_0 ok18_0, Known.of envOk [9, 9, 9, 9, 2] [(.agg [.keep, .keep, .keep, .keep, .keep, .keep, (.ros 23), (.ros 3), (.ros 110), (.ros 25), (.ros 43), (.ros 40), .keep, .keep, .keep, .keep]), (.agg [.keep, .keep, .keep, .keep, .keep, .keep, .keep, .keep, .keep, .keep]), (.agg [.keep, .keep]), (.agg [.keep, .keep]), .keep] v20_0 F20_0 w20_0 ok20_0]
def s7_0_4 : List (Nat × Pat) := [(3, (.ptr 0 0 53 [.keep, .keep, .keep, .keep, .keep, .keep, (.ros 23), (.ros 3), (.ros 110), (.ros 25), (.ros 43), (.ros 40), .keep, .keep, .keep, .keep])), (4, (.ptr 1 0 56 [.keep, .keep, .keep, .keep, .keep, .keep, .keep, .keep, .keep, .keep])), (5, (.ptr 2 0 59 [(.ros 25), .keep])), (7, .keep)]
noncomputable def L7_0 (n id : Nat) (st : St G) : Option Bool := match Nat.beq id 4 with | true => cutK Try.prog s7_0_4 [] c7_0_4.dec (K7_0 n) st | false => none
set_option maxRecDepth 100000 in
theorem e7_0 (n : Nat) (v : (Int × Int × Int × Int × Int × Int × List Int × List Int × (List (Int × Int × Bool)) × (List (Int × Int)) × (List (List (Int × Int))) × (List (Int × Int × Int × Int × Bool)) × Int × Int × Int × Int) × (Int × Int × Bool × Bool × Int × Int × Int × Int × Int × Bool) × (List (Int × Int)) × Int) : ev Try.prog E (oracle k7_0) Try.f7.ntmps (fun x => mem x [4]) (L7_0 n) (finA Try.prog E Try.f7.results.toList [] w7_0.alts) 4000 [.code (Try.f7.body.getD .skip)] (argSt (v7_0.enc v)) = E7_0 (K7_0 n) v := by kernel_rfl
set_option maxRecDepth 100000 in
theorem b7_0_4 (n : Nat) (v : Int × ((List (Int × Int)) × Int) × (Int × Int × Bool × Bool × Int × Int × Int × Int × Int × Bool) × Int × Int × Int × Int × Int × Int × List Int × List Int × (List (Int × Int × Bool)) × (List (Int × Int)) × (List (List (Int × Int))) × (List (Int × Int × Int × Int × Bool)) × Int × Int × Int × Int) : evCut Try.prog E (oracle k7_0) Try.f7.ntmps (fun x => mem x [4]) (L7_0 n) (finA Try.prog E Try.f7.results.toList [] w7_0.alts) 4000 (todoAt (Try.f7.body.getD .skip) 4) (cutSt s7_0_4 (c7_0_4.enc v)) = B7_0_4 (K7_0 n) v := by kernel_rfl
theorem ok7_0 : FnOk Try.prog E 7 v7_0.enc F7_0 w7_0.enc :=
  fn_known (fn := Try.f7) (c := (Try.f7.body.getD .skip)) Try.func7 (by kernel_rfl) rfl envOk (oracle_ok k7_0) mixed v7_0 F7_0 w7_0 [] [4] 4000 L7_0 (by kernel_rfl)
    (List.forall_mem_cons.2 ⟨⟨_, s7_0_4, c7_0_4.dec, c7_0_4.enc, fun n => (K7_0 n), c7_0_4.ok, fun _ _ => rfl, fun _ => rfl, fun n v _ h => (b7_0_4 n v).trans h⟩, fun _ h => (nomatch h)⟩) (fun v _ h => ⟨fuel7_0 v, (e7_0 _ v).trans h⟩) (fun _ => by kernel_rfl) (fun _ => by kernel_rfl) (fun _ _ => by kernel_rfl)
/- chicane/chicanelaw31.ClockSums -/
abbrev A8_0 : Type := (Int × Int × Int × Int × Int × Int × List Int × List Int × (List (Int × Int × Bool)) × (List (Int × Int)) × (List (List (Int × Int))) × (List (Int × Int × Int × Int × Bool)) × Int × Int × Int × Int) × (List (Int × Int)) × Int
abbrev R8_0 : Type := Bool
def v8_0 : Pk G ((Int × Int × Int × Int × Int × Int × List Int × List Int × (List (Int × Int × Bool)) × (List (Int × Int)) × (List (List (Int × Int))) × (List (Int × Int × Int × Int × Bool)) × Int × Int × Int × Int) × (List (Int × Int)) × Int) := (Pk.fst (pk (Sh.cons (Sh.agg (Sh.cons (Sh.int .i64) (Sh.cons (Sh.int .i64) (Sh.cons (Sh.int .i64) (Sh.cons (Sh.int .i64) (Sh.cons (Sh.int .i64) (Sh.cons (Sh.int .i64) (Sh.cons (Sh.ros 23) (Sh.cons (Sh.ros 3) (Sh.cons (Sh.ros 110) (Sh.cons (Sh.ros 25) (Sh.cons (Sh.ros 43) (Sh.cons (Sh.ros 40) (Sh.cons (Sh.int .i64) (Sh.cons (Sh.int .i64) (Sh.cons (Sh.int .u32) (Sh.fst (Sh.cons (Sh.int .i64) Sh.nil)))))))))))))))))) (Sh.fst (Sh.cons (Sh.agg (Sh.cons (Sh.ros 25) (Sh.fst (Sh.cons (Sh.int .u64) Sh.nil)))) Sh.nil))) Sh.hnil))
def w8_0 : Wk G Bool := (Wk.one [.keep] (Pk.fst (pk (Sh.fst (Sh.cons Sh.bool Sh.nil)) Sh.hnil)))
def c8_0_7 : Pk G ((Int × Int × Int) × (Int × Int × Bool × Bool × Int × Int × Int × Int × Int × Bool) × ((List (Int × Int)) × Int) × Int × Int × Int × Int × Int × Int × List Int × List Int × (List (Int × Int × Bool)) × (List (Int × Int)) × (List (List (Int × Int))) × (List (Int × Int × Int × Int × Bool)) × Int × Int × Int × Int) := (pk (Sh.snd (Sh.cons (Sh.ptr 0 0) (Sh.snd (Sh.cons (Sh.ptr 1 0) (Sh.snd (Sh.cons (Sh.ptr 2 0) (Sh.cons (Sh.int .i64) (Sh.cons (Sh.int .i64) (Sh.fst (Sh.cons (Sh.int .i64) Sh.nil)))))))))) (Sh.hfix 2 56 (Sh.cons (Sh.int .i64) (Sh.cons (Sh.int .i64) (Sh.cons Sh.bool (Sh.cons Sh.bool (Sh.cons (Sh.int .i64) (Sh.cons (Sh.int .i64) (Sh.cons (Sh.int .i64) (Sh.cons (Sh.int .i64) (Sh.cons (Sh.int .i64) (Sh.fst (Sh.cons Sh.bool Sh.nil))))))))))) (Sh.hfix 1 59 (Sh.cons (Sh.ros 25) (Sh.fst (Sh.cons (Sh.int .u64) Sh.nil))) (Sh.fst (Sh.hfix 0 53 (Sh.cons (Sh.int .i64) (Sh.cons (Sh.int .i64) (Sh.cons (Sh.int .i64) (Sh.cons (Sh.int .i64) (Sh.cons (Sh.int .i64) (Sh.cons (Sh.int .i64) (Sh.cons (Sh.ros 23) (Sh.cons (Sh.ros 3) (Sh.cons (Sh.ros 110) (Sh.cons (Sh.ros 25) (Sh.cons (Sh.ros 43) (Sh.cons (Sh.ros 40) (Sh.cons (Sh.int .i64) (Sh.cons (Sh.int .i64) (Sh.cons (Sh.int .u32) (Sh.fst (Sh.cons (Sh.int .i64) Sh.nil))))))))))))))))) Sh.hnil)))))
def c8_0_13 : Pk G ((Int × Int × Int × Int × Int) × (List (Int × Int × Int × Int)) × (Int × Int × Bool × Bool × Int × Int × Int × Int × Int × Bool) × ((List (Int × Int)) × Int) × Int × Int × Int × Int × Int × Int × List Int × List Int × (List (Int × Int × Bool)) × (List (Int × Int)) × (List (List (Int × Int))) × (List (Int × Int × Int × Int × Bool)) × Int × Int × Int × Int) := (pk (Sh.snd (Sh.cons (Sh.ptr 0 0) (Sh.snd (Sh.cons (Sh.ptr 1 0) (Sh.snd (Sh.cons (Sh.ptr 2 0) (Sh.cons (Sh.int .i64) (Sh.cons (Sh.int .i64) (Sh.cons (Sh.int .i64) (Sh.cons (Sh.int .i64) (Sh.snd (Sh.cons (Sh.osl 3) (Sh.fst (Sh.cons (Sh.int .i64) Sh.nil)))))))))))))) (Sh.hrow 3 68 (Sh.hfix 2 56 (Sh.cons (Sh.int .i64) (Sh.cons (Sh.int .i64) (Sh.cons Sh.bool (Sh.cons Sh.bool (Sh.cons (Sh.int .i64) (Sh.cons (Sh.int .i64) (Sh.cons (Sh.int .i64) (Sh.cons (Sh.int .i64) (Sh.cons (Sh.int .i64) (Sh.fst (Sh.cons Sh.bool Sh.nil))))))))))) (Sh.hfix 1 59 (Sh.cons (Sh.ros 25) (Sh.fst (Sh.cons (Sh.int .u64) Sh.nil))) (Sh.fst (Sh.hfix 0 53 (Sh.cons (Sh.int .i64) (Sh.cons (Sh.int .i64) (Sh.cons (Sh.int .i64) (Sh.cons (Sh.int .i64) (Sh.cons (Sh.int .i64) (Sh.cons (Sh.int .i64) (Sh.cons (Sh.ros 23) (Sh.cons (Sh.ros 3) (Sh.cons (Sh.ros 110) (Sh.cons (Sh.ros 25) (Sh.cons (Sh.ros 43) (Sh.cons (Sh.ros 40) (Sh.cons (Sh.int .i64) (Sh.cons (Sh.int .i64) (Sh.cons (Sh.int .u32) (Sh.fst (Sh.cons (Sh.int .i64) Sh.nil))))))))))))))))) Sh.hnil))))))
def B8_0_7 (K : (((Int × Int × Int) × (Int × Int × Bool × Bool × Int × Int × Int × Int × Int × Bool) × ((List (Int × Int)) × Int) × Int × Int × Int × Int × Int × Int × List Int × List Int × (List (Int × Int × Bool)) × (List (Int × Int)) × (List (List (Int × Int))) × (List (Int × Int × Int × Int × Bool)) × Int × Int × Int × Int) → Option Bool) × (((Int × Int × Int × Int × Int) × (List (Int × Int × Int × Int)) × (Int × Int × Bool × Bool × Int × Int × Int × Int × Int × Bool) × ((List (Int × Int)) × Int) × Int × Int × Int × Int × Int × Int × List Int × List Int × (List (Int × Int × Bool)) × (List (Int × Int)) × (List (List (Int × Int))) × (List (Int × Int × Int × Int × Bool)) × Int × Int × Int × Int) → Option Bool)) (v : (Int × Int × Int) × (Int × Int × Bool × Bool × Int × Int × Int × Int × Int × Bool) × ((List (Int × Int)) × Int) × Int × Int × Int × Int × Int × Int × List Int × List Int × (List (Int × Int × Bool)) × (List (Int × Int)) × (List (List (Int × Int))) × (List (Int × Int × Int × Int × Bool)) × Int × Int × Int × Int) : Option Bool :=
  bif (decide (v.1.2.2 < ((v.2.2.1.1).length : Int))) then
    let x2153 : Int := (IntKind.wrap .i64 (v.1.2.2 - (1 : Int)))
    (rdx v.2.2.1.1 x2153).bind fun (x2154 : Int × Int) =>
    (rdx v.2.2.1.1 v.1.2.2).bind fun (x2155 : Int × Int) =>
    let x2156 : Int := (Int.tmod v.1.2.2 (64 : Int))
    let x2157 : Int := (IntKind.wrap .u64 x2156)
    (chk (decide (0 ≤ x2157))).bind fun _ =>
    let x2158 : Int := (Int.fdiv v.2.2.1.2 (2 ^ min (x2157).toNat 64))
    let x2159 : Int := (Int.tmod x2158 (2 : Int))
    (F20_0 (v.2.2.2, (v.2.1, (x2154, (x2155, (x2159 == (1 : Int))))))).bind fun r2160 =>
    K.2 ((v.1.1, (v.1.2.1, (v.1.2.2, (v.2.1.2.2.2.2.2.2.2.2.1, (0 : Int))))), (r2160.2, (r2160.1, v.2.2)))
  else
    (F19_0 ()).bind fun r2161 =>
    some (r2161)

def B8_0_13 (K : (((Int × Int × Int) × (Int × Int × Bool × Bool × Int × Int × Int × Int × Int × Bool) × ((List (Int × Int)) × Int) × Int × Int × Int × Int × Int × Int × List Int × List Int × (List (Int × Int × Bool)) × (List (Int × Int)) × (List (List (Int × Int))) × (List (Int × Int × Int × Int × Bool)) × Int × Int × Int × Int) → Option Bool) × (((Int × Int × Int × Int × Int) × (List (Int × Int × Int × Int)) × (Int × Int × Bool × Bool × Int × Int × Int × Int × Int × Bool) × ((List (Int × Int)) × Int) × Int × Int × Int × Int × Int × Int × List Int × List Int × (List (Int × Int × Bool)) × (List (Int × Int)) × (List (List (Int × Int))) × (List (Int × Int × Int × Int × Bool)) × Int × Int × Int × Int) → Option Bool)) (v : (Int × Int × Int × Int × Int) × (List (Int × Int × Int × Int)) × (Int × Int × Bool × Bool × Int × Int × Int × Int × Int × Bool) × ((List (Int × Int)) × Int) × Int × Int × Int × Int × Int × Int × List Int × List Int × (List (Int × Int × Bool)) × (List (Int × Int)) × (List (List (Int × Int))) × (List (Int × Int × Int × Int × Bool)) × Int × Int × Int × Int) : Option Bool :=
  bif (decide (v.1.2.2.2.2 < ((v.2.1).length : Int))) then
    (idx v.1.2.2.2.2 (v.2.1).length).bind fun (x2162 : Nat) =>
    ((v.2.1)[x2162]?).bind fun (x2163 : Int × Int × Int × Int) =>
    bif (decide (x2163.2.2.1 < v.1.2.1)) then
      some (false)
    else
      let x2164 : Int := (IntKind.wrap .i64 (v.1.2.2.2.1 * 2 ^ 32))
      bif (decide (x2163.2.2.1 < x2164)) then
        some (false)
      else
        let x2165 : Int := (IntKind.wrap .i64 (v.1.2.2.2.1 + (1 : Int)))
        let x2166 : Int := (IntKind.wrap .i64 (x2165 * 2 ^ 32))
        bif (decide (x2163.2.2.1 > x2166)) then
          some (false)
        else
          bif (decide (x2163.2.2.2 < (0 : Int))) then
            some (false)
          else
            bif (x2163.1 == (3 : Int)) then
              let x2167 : Int := (IntKind.wrap .i64 (v.1.1 + x2163.2.2.2))
              bif (x2163.1 == (6 : Int)) then
                bif (x2163.2.2.2 != x2167) then
                  some (false)
                else
                  bif (!v.2.2.1.2.2.2.2.2.2.2.2.2) then
                    some (false)
                  else
                    let x2168 : Int := (IntKind.wrap .i64 (v.1.2.2.2.2 + (1 : Int)))
                    K.2 ((x2167, (x2163.2.2.1, (v.1.2.2.1, (v.1.2.2.2.1, x2168)))), v.2)
              else
                let x2169 : Int := (IntKind.wrap .i64 (v.1.2.2.2.2 + (1 : Int)))
                K.2 ((x2167, (x2163.2.2.1, (v.1.2.2.1, (v.1.2.2.2.1, x2169)))), v.2)
            else
              bif (x2163.1 == (6 : Int)) then
                bif (x2163.2.2.2 != v.1.1) then
                  some (false)
                else
                  bif (!v.2.2.1.2.2.2.2.2.2.2.2.2) then
                    some (false)
                  else
                    let x2170 : Int := (IntKind.wrap .i64 (v.1.2.2.2.2 + (1 : Int)))
                    K.2 ((v.1.1, (x2163.2.2.1, (v.1.2.2.1, (v.1.2.2.2.1, x2170)))), v.2)
              else
                let x2171 : Int := (IntKind.wrap .i64 (v.1.2.2.2.2 + (1 : Int)))
                K.2 ((v.1.1, (x2163.2.2.1, (v.1.2.2.1, (v.1.2.2.2.1, x2171)))), v.2)
  else
    let x2172 : Int := (IntKind.wrap .i64 (v.1.2.2.1 + (1 : Int)))
    K.1 ((v.1.1, (v.1.2.1, x2172)), v.2.2)

def E8_0 (K : (((Int × Int × Int) × (Int × Int × Bool × Bool × Int × Int × Int × Int × Int × Bool) × ((List (Int × Int)) × Int) × Int × Int × Int × Int × Int × Int × List Int × List Int × (List (Int × Int × Bool)) × (List (Int × Int)) × (List (List (Int × Int))) × (List (Int × Int × Int × Int × Bool)) × Int × Int × Int × Int) → Option Bool) × (((Int × Int × Int × Int × Int) × (List (Int × Int × Int × Int)) × (Int × Int × Bool × Bool × Int × Int × Int × Int × Int × Bool) × ((List (Int × Int)) × Int) × Int × Int × Int × Int × Int × Int × List Int × List Int × (List (Int × Int × Bool)) × (List (Int × Int)) × (List (List (Int × Int))) × (List (Int × Int × Int × Int × Bool)) × Int × Int × Int × Int) → Option Bool)) (v : (Int × Int × Int × Int × Int × Int × List Int × List Int × (List (Int × Int × Bool)) × (List (Int × Int)) × (List (List (Int × Int))) × (List (Int × Int × Int × Int × Bool)) × Int × Int × Int × Int) × (List (Int × Int)) × Int) : Option Bool :=
  (F17_0 v.1).bind fun r2152 =>
  bif (!r2152) then
    some (true)
  else
    bif (decide (((v.2.1).length : Int) > (300 : Int))) then
      some (true)
    else
      K.1 (((0 : Int), ((0 : Int), (1 : Int))), (((0 : Int), ((0 : Int), (false, (false, ((0 : Int), ((0 : Int), ((0 : Int), ((0 : Int), ((0 : Int), false))))))))), (v.2, v.1)))

def K8_0 : Nat → (((Int × Int × Int) × (Int × Int × Bool × Bool × Int × Int × Int × Int × Int × Bool) × ((List (Int × Int)) × Int) × Int × Int × Int × Int × Int × Int × List Int × List Int × (List (Int × Int × Bool)) × (List (Int × Int)) × (List (List (Int × Int))) × (List (Int × Int × Int × Int × Bool)) × Int × Int × Int × Int) → Option Bool) × (((Int × Int × Int × Int × Int) × (List (Int × Int × Int × Int)) × (Int × Int × Bool × Bool × Int × Int × Int × Int × Int × Bool) × ((List (Int × Int)) × Int) × Int × Int × Int × Int × Int × Int × List Int × List Int × (List (Int × Int × Bool)) × (List (Int × Int)) × (List (List (Int × Int))) × (List (Int × Int × Int × Int × Bool)) × Int × Int × Int × Int) → Option Bool)
  | 0 => (fun _ => none, fun _ => none)
  | n + 1 => (B8_0_7 (K8_0 n), B8_0_13 (K8_0 n))
def fuel8_0 (v : (Int × Int × Int × Int × Int × Int × List Int × List Int × (List (Int × Int × Bool)) × (List (Int × Int)) × (List (List (Int × Int))) × (List (Int × Int × Int × Int × Bool)) × Int × Int × Int × Int) × (List (Int × Int)) × Int) : Nat := 40000
def F8_0 (v : (Int × Int × Int × Int × Int × Int × List Int × List Int × (List (Int × Int × Bool)) × (List (Int × Int)) × (List (List (Int × Int))) × (List (Int × Int × Int × Int × Bool)) × Int × Int × Int × Int) × (List (Int × Int)) × Int) : Option Bool := E8_0 (K8_0 (fuel8_0 v)) v
noncomputable def k8_0 : List (Known Try.prog E) := [Known.of envOk [9] [(.agg [.keep, .keep, .keep, .keep, .keep, .keep, (.ros 23), (.ros 3), (.ros 110), (.ros 25), (.ros 43), (.ros 40), .keep, .keep, .keep, .keep])] v17_0 F17_0 w17_0 ok17_0, Known.of envOk [9, 9, 9, 9, 2] [(.agg [.keep, .keep, .keep, .keep, .keep, .keep, (.ros 23), (.ros 3), (.ros 110), (.ros 25), (.ros 43), (.ros 40), .keep, .keep, .keep, .keep]), (.agg [.keep, .keep, .keep, .keep, .keep, .keep, .keep, .keep, .keep, .keep]), (.agg [.keep, .keep]), (.agg [.keep, .keep]), .keep] v20_0 F20_0 w20_0 ok20_0, Known.of envOk [] [] v19_0 F19_0 w19_0 ok19_0]
def s8_0_13 : List (Nat × Pat) := [(2, (.ptr 0 0 53 [.keep, .keep, .keep, .keep, .keep, .keep, (.ros 23), (.ros 3), (.ros 110), (.ros 25), (.ros 43), (.ros 40), .keep, .keep, .keep, .keep])), (3, (.ptr 1 0 59 [(.ros 25), .keep])), (5, (.ptr 2 0 56 [.keep, .keep, .keep, .keep, .keep, .keep, .keep, .keep, .keep, .keep])), (6, .keep), (7, .keep), (8, .keep), (9, .keep), (10, (.own 3 68)), (11, .keep)]
def s8_0_7 : List (Nat × Pat) := [(2, (.ptr 0 0 53 [.keep, .keep, .keep, .keep, .keep, .keep, (.ros 23), (.ros 3), (.ros 110), (.ros 25), (.ros 43), (.ros 40), .keep, .keep, .keep, .keep])), (3, (.ptr 1 0 59 [(.ros 25), .keep])), (5, (.ptr 2 0 56 [.keep, .keep, .keep, .keep, .keep, .keep, .keep, .keep, .keep, .keep])), (6, .keep), (7, .keep), (8, .keep)]
noncomputable def L8_0 (n id : Nat) (st : St G) : Option Bool := match Nat.beq id 7 with | true => cutK Try.prog s8_0_7 [] c8_0_7.dec (K8_0 n).1 st | false => match Nat.beq id 13 with | true => cutK Try.prog s8_0_13 [] c8_0_13.dec (K8_0 n).2 st | false => none
set_option maxRecDepth 100000 in
theorem e8_0 (n : Nat) (v : (Int × Int × Int × Int × Int × Int × List Int × List Int × (List (Int × Int × Bool)) × (List (Int × Int)) × (List (List (Int × Int))) × (List (Int × Int × Int × Int × Bool)) × Int × Int × Int × Int) × (List (Int × Int)) × Int) : ev Try.prog E (oracle k8_0) Try.f8.ntmps (fun x => mem x [7, 13]) (L8_0 n) (finA Try.prog E Try.f8.results.toList [] w8_0.alts) 4000 [.code (Try.f8.body.getD .skip)] (argSt (v8_0.enc v)) = E8_0 (K8_0 n) v := by kernel_rfl
set_option maxRecDepth 100000 in
theorem b8_0_7 (n : Nat) (v : (Int × Int × Int) × (Int × Int × Bool × Bool × Int × Int × Int × Int × Int × Bool) × ((List (Int × Int)) × Int) × Int × Int × Int × Int × Int × Int × List Int × List Int × (List (Int × Int × Bool)) × (List (Int × Int)) × (List (List (Int × Int))) × (List (Int × Int × Int × Int × Bool)) × Int × Int × Int × Int) : evCut Try.prog E (oracle k8_0) Try.f8.ntmps (fun x => mem x [7, 13]) (L8_0 n) (finA Try.prog E Try.f8.results.toList [] w8_0.alts) 4000 (todoAt (Try.f8.body.getD .skip) 7) (cutSt s8_0_7 (c8_0_7.enc v)) = B8_0_7 (K8_0 n) v := by kernel_rfl
set_option maxRecDepth 100000 in
theorem b8_0_13 (n : Nat) (v : (Int × Int × Int × Int × Int) × (List (Int × Int × Int × Int)) × (Int × Int × Bool × Bool × Int × Int × Int × Int × Int × Bool) × ((List (Int × Int)) × Int) × Int × Int × Int × Int × Int × Int × List Int × List Int × (List (Int × Int × Bool)) × (List (Int × Int)) × (List (List (Int × Int))) × (List (Int × Int × Int × Int × Bool)) × Int × Int × Int × Int) : evCut Try.prog E (oracle k8_0) Try.f8.ntmps (fun x => mem x [7, 13]) (L8_0 n) (finA Try.prog E Try.f8.results.toList [] w8_0.alts) 4000 (todoAt (Try.f8.body.getD .skip) 13) (cutSt s8_0_13 (c8_0_13.enc v)) = B8_0_13 (K8_0 n) v := by kernel_rfl
theorem ok8_0 : FnOk Try.prog E 8 v8_0.enc F8_0 w8_0.enc :=
  fn_known (fn := Try.f8) (c := (Try.f8.body.getD .skip)) Try.func8 (by kernel_rfl) rfl envOk (oracle_ok k8_0) mixed v8_0 F8_0 w8_0 [] [7, 13] 4000 L8_0 (by kernel_rfl)
    (List.forall_mem_cons.2 ⟨⟨_, s8_0_7, c8_0_7.dec, c8_0_7.enc, fun n => (K8_0 n).1, c8_0_7.ok, fun _ _ => rfl, fun _ => rfl, fun n v _ h => (b8_0_7 n v).trans h⟩, List.forall_mem_cons.2 ⟨⟨_, s8_0_13, c8_0_13.dec, c8_0_13.enc, fun n => (K8_0 n).2, c8_0_13.ok, fun _ _ => rfl, fun _ => rfl, fun n v _ h => (b8_0_13 n v).trans h⟩, fun _ h => (nomatch h)⟩⟩) (fun v _ h => ⟨fuel8_0 v, (e8_0 _ v).trans h⟩) (fun _ => by kernel_rfl) (fun _ => by kernel_rfl) (fun _ _ => by kernel_rfl)
/- chicane/chicanelaw31.ClockOrder -/
abbrev A9_0 : Type := (Int × Int × Int × Int × Int × Int × List Int × List Int × (List (Int × Int × Bool)) × (List (Int × Int)) × (List (List (Int × Int))) × (List (Int × Int × Int × Int × Bool)) × Int × Int × Int × Int) × (List (Int × Int)) × Int
abbrev R9_0 : Type := Bool
def v9_0 : Pk G ((Int × Int × Int × Int × Int × Int × List Int × List Int × (List (Int × Int × Bool)) × (List (Int × Int)) × (List (List (Int × Int))) × (List (Int × Int × Int × Int × Bool)) × Int × Int × Int × Int) × (List (Int × Int)) × Int) := (Pk.fst (pk (Sh.cons (Sh.agg (Sh.cons (Sh.int .i64) (Sh.cons (Sh.int .i64) (Sh.cons (Sh.int .i64) (Sh.cons (Sh.int .i64) (Sh.cons (Sh.int .i64) (Sh.cons (Sh.int .i64) (Sh.cons (Sh.ros 23) (Sh.cons (Sh.ros 3) (Sh.cons (Sh.ros 110) (Sh.cons (Sh.ros 25) (Sh.cons (Sh.ros 43) (Sh.cons (Sh.ros 40) (Sh.cons (Sh.int .i64) (Sh.cons (Sh.int .i64) (Sh.cons (Sh.int .u32) (Sh.fst (Sh.cons (Sh.int .i64) Sh.nil)))))))))))))))))) (Sh.fst (Sh.cons (Sh.agg (Sh.cons (Sh.ros 25) (Sh.fst (Sh.cons (Sh.int .u64) Sh.nil)))) Sh.nil))) Sh.hnil))
def w9_0 : Wk G Bool := (Wk.one [.keep] (Pk.fst (pk (Sh.fst (Sh.cons Sh.bool Sh.nil)) Sh.hnil)))
def c9_0_6 : Pk G ((Int × Int) × (Int × Int × Bool × Bool × Int × Int × Int × Int × Int × Bool) × ((List (Int × Int)) × Int) × Int × Int × Int × Int × Int × Int × List Int × List Int × (List (Int × Int × Bool)) × (List (Int × Int)) × (List (List (Int × Int))) × (List (Int × Int × Int × Int × Bool)) × Int × Int × Int × Int) := (pk (Sh.snd (Sh.cons (Sh.ptr 0 0) (Sh.snd (Sh.cons (Sh.ptr 1 0) (Sh.snd (Sh.cons (Sh.ptr 2 0) (Sh.cons (Sh.int .i64) (Sh.fst (Sh.cons (Sh.int .i64) Sh.nil))))))))) (Sh.hfix 2 56 (Sh.cons (Sh.int .i64) (Sh.cons (Sh.int .i64) (Sh.cons Sh.bool (Sh.cons Sh.bool (Sh.cons (Sh.int .i64) (Sh.cons (Sh.int .i64) (Sh.cons (Sh.int .i64) (Sh.cons (Sh.int .i64) (Sh.cons (Sh.int .i64) (Sh.fst (Sh.cons Sh.bool Sh.nil))))))))))) (Sh.hfix 1 59 (Sh.cons (Sh.ros 25) (Sh.fst (Sh.cons (Sh.int .u64) Sh.nil))) (Sh.fst (Sh.hfix 0 53 (Sh.cons (Sh.int .i64) (Sh.cons (Sh.int .i64) (Sh.cons (Sh.int .i64) (Sh.cons (Sh.int .i64) (Sh.cons (Sh.int .i64) (Sh.cons (Sh.int .i64) (Sh.cons (Sh.ros 23) (Sh.cons (Sh.ros 3) (Sh.cons (Sh.ros 110) (Sh.cons (Sh.ros 25) (Sh.cons (Sh.ros 43) (Sh.cons (Sh.ros 40) (Sh.cons (Sh.int .i64) (Sh.cons (Sh.int .i64) (Sh.cons (Sh.int .u32) (Sh.fst (Sh.cons (Sh.int .i64) Sh.nil))))))))))))))))) Sh.hnil)))))
def c9_0_11 : Pk G ((Int × Int × Int) × (List (Int × Int × Int × Int)) × (Int × Int × Bool × Bool × Int × Int × Int × Int × Int × Bool) × ((List (Int × Int)) × Int) × Int × Int × Int × Int × Int × Int × List Int × List Int × (List (Int × Int × Bool)) × (List (Int × Int)) × (List (List (Int × Int))) × (List (Int × Int × Int × Int × Bool)) × Int × Int × Int × Int) := (pk (Sh.snd (Sh.cons (Sh.ptr 0 0) (Sh.snd (Sh.cons (Sh.ptr 1 0) (Sh.snd (Sh.cons (Sh.ptr 2 0) (Sh.cons (Sh.int .i64) (Sh.cons (Sh.int .i64) (Sh.snd (Sh.cons (Sh.osl 3) (Sh.fst (Sh.cons (Sh.int .i64) Sh.nil)))))))))))) (Sh.hrow 3 68 (Sh.hfix 2 56 (Sh.cons (Sh.int .i64) (Sh.cons (Sh.int .i64) (Sh.cons Sh.bool (Sh.cons Sh.bool (Sh.cons (Sh.int .i64) (Sh.cons (Sh.int .i64) (Sh.cons (Sh.int .i64) (Sh.cons (Sh.int .i64) (Sh.cons (Sh.int .i64) (Sh.fst (Sh.cons Sh.bool Sh.nil))))))))))) (Sh.hfix 1 59 (Sh.cons (Sh.ros 25) (Sh.fst (Sh.cons (Sh.int .u64) Sh.nil))) (Sh.fst (Sh.hfix 0 53 (Sh.cons (Sh.int .i64) (Sh.cons (Sh.int .i64) (Sh.cons (Sh.int .i64) (Sh.cons (Sh.int .i64) (Sh.cons (Sh.int .i64) (Sh.cons (Sh.int .i64) (Sh.cons (Sh.ros 23) (Sh.cons (Sh.ros 3) (Sh.cons (Sh.ros 110) (Sh.cons (Sh.ros 25) (Sh.cons (Sh.ros 43) (Sh.cons (Sh.ros 40) (Sh.cons (Sh.int .i64) (Sh.cons (Sh.int .i64) (Sh.cons (Sh.int .u32) (Sh.fst (Sh.cons (Sh.int .i64) Sh.nil))))))))))))))))) Sh.hnil))))))
def B9_0_6 (K : (((Int × Int) × (Int × Int × Bool × Bool × Int × Int × Int × Int × Int × Bool) × ((List (Int × Int)) × Int) × Int × Int × Int × Int × Int × Int × List Int × List Int × (List (Int × Int × Bool)) × (List (Int × Int)) × (List (List (Int × Int))) × (List (Int × Int × Int × Int × Bool)) × Int × Int × Int × Int) → Option Bool) × (((Int × Int × Int) × (List (Int × Int × Int × Int)) × (Int × Int × Bool × Bool × Int × Int × Int × Int × Int × Bool) × ((List (Int × Int)) × Int) × Int × Int × Int × Int × Int × Int × List Int × List Int × (List (Int × Int × Bool)) × (List (Int × Int)) × (List (List (Int × Int))) × (List (Int × Int × Int × Int × Bool)) × Int × Int × Int × Int) → Option Bool)) (v : (Int × Int) × (Int × Int × Bool × Bool × Int × Int × Int × Int × Int × Bool) × ((List (Int × Int)) × Int) × Int × Int × Int × Int × Int × Int × List Int × List Int × (List (Int × Int × Bool)) × (List (Int × Int)) × (List (List (Int × Int))) × (List (Int × Int × Int × Int × Bool)) × Int × Int × Int × Int) : Option Bool :=
  bif (decide (v.1.2 < ((v.2.2.1.1).length : Int))) then
    let x2281 : Int := (IntKind.wrap .i64 (v.1.2 - (1 : Int)))
    (rdx v.2.2.1.1 x2281).bind fun (x2282 : Int × Int) =>
    (rdx v.2.2.1.1 v.1.2).bind fun (x2283 : Int × Int) =>
    (F20_0 (v.2.2.2, (v.2.1, (x2282, (x2283, false))))).bind fun r2284 =>
    K.2 ((v.1.1, (v.1.2, (0 : Int))), (r2284.2, (r2284.1, v.2.2)))
  else
    (F19_0 ()).bind fun r2285 =>
    some (r2285)

def B9_0_11 (K : (((Int × Int) × (Int × Int × Bool × Bool × Int × Int × Int × Int × Int × Bool) × ((List (Int × Int)) × Int) × Int × Int × Int × Int × Int × Int × List Int × List Int × (List (Int × Int × Bool)) × (List (Int × Int)) × (List (List (Int × Int))) × (List (Int × Int × Int × Int × Bool)) × Int × Int × Int × Int) → Option Bool) × (((Int × Int × Int) × (List (Int × Int × Int × Int)) × (Int × Int × Bool × Bool × Int × Int × Int × Int × Int × Bool) × ((List (Int × Int)) × Int) × Int × Int × Int × Int × Int × Int × List Int × List Int × (List (Int × Int × Bool)) × (List (Int × Int)) × (List (List (Int × Int))) × (List (Int × Int × Int × Int × Bool)) × Int × Int × Int × Int) → Option Bool)) (v : (Int × Int × Int) × (List (Int × Int × Int × Int)) × (Int × Int × Bool × Bool × Int × Int × Int × Int × Int × Bool) × ((List (Int × Int)) × Int) × Int × Int × Int × Int × Int × Int × List Int × List Int × (List (Int × Int × Bool)) × (List (Int × Int)) × (List (List (Int × Int))) × (List (Int × Int × Int × Int × Bool)) × Int × Int × Int × Int) : Option Bool :=
  bif (decide (v.1.2.2 < ((v.2.1).length : Int))) then
    (idx v.1.2.2 (v.2.1).length).bind fun (x2286 : Nat) =>
    ((v.2.1)[x2286]?).bind fun (x2287 : Int × Int × Int × Int) =>
    bif (x2287.1 == (1 : Int)) then
      (idx v.1.2.2 (v.2.1).length).bind fun (x2288 : Nat) =>
      ((v.2.1)[x2288]?).bind fun (x2289 : Int × Int × Int × Int) =>
      bif (x2289.2.1 != v.1.1) then
        some (false)
      else
        let x2290 : Int := (IntKind.wrap .i64 (v.1.1 + (1 : Int)))
        (chk (((v.2.2.2.2.2.2.2.2.2.2.2.2.2.2.2.1).length : Int) != 0)).bind fun _ =>
        let x2291 : Int := (Int.tmod x2290 ((v.2.2.2.2.2.2.2.2.2.2.2.2.2.2.2.1).length : Int))
        (idx v.1.2.2 (v.2.1).length).bind fun (x2292 : Nat) =>
        ((v.2.1)[x2292]?).bind fun (x2293 : Int × Int × Int × Int) =>
        bif (x2293.1 == (3 : Int)) then
          bif (v.1.2.2 == (0 : Int)) then
            some (false)
          else
            let x2294 : Int := (IntKind.wrap .i64 (v.1.2.2 - (1 : Int)))
            (idx x2294 (v.2.1).length).bind fun (x2295 : Nat) =>
            ((v.2.1)[x2295]?).bind fun (x2296 : Int × Int × Int × Int) =>
            bif (x2296.2.1 != (0 : Int)) then
              some (false)
            else
              let x2297 : Int := (IntKind.wrap .i64 (v.1.2.2 + (1 : Int)))
              K.2 ((x2291, (v.1.2.1, x2297)), v.2)
        else
          let x2298 : Int := (IntKind.wrap .i64 (v.1.2.2 + (1 : Int)))
          K.2 ((x2291, (v.1.2.1, x2298)), v.2)
    else
      (idx v.1.2.2 (v.2.1).length).bind fun (x2299 : Nat) =>
      ((v.2.1)[x2299]?).bind fun (x2300 : Int × Int × Int × Int) =>
      bif (x2300.1 == (3 : Int)) then
        bif (v.1.2.2 == (0 : Int)) then
          some (false)
        else
          let x2301 : Int := (IntKind.wrap .i64 (v.1.2.2 - (1 : Int)))
          (idx x2301 (v.2.1).length).bind fun (x2302 : Nat) =>
          ((v.2.1)[x2302]?).bind fun (x2303 : Int × Int × Int × Int) =>
          bif (x2303.2.1 != (0 : Int)) then
            some (false)
          else
            let x2304 : Int := (IntKind.wrap .i64 (v.1.2.2 + (1 : Int)))
            K.2 ((v.1.1, (v.1.2.1, x2304)), v.2)
      else
        let x2305 : Int := (IntKind.wrap .i64 (v.1.2.2 + (1 : Int)))
        K.2 ((v.1.1, (v.1.2.1, x2305)), v.2)
  else
    let x2306 : Int := (IntKind.wrap .i64 (v.1.2.1 + (1 : Int)))
    K.1 ((v.1.1, x2306), v.2.2)

def E9_0 (K : (((Int × Int) × (Int × Int × Bool × Bool × Int × Int × Int × Int × Int × Bool) × ((List (Int × Int)) × Int) × Int × Int × Int × Int × Int × Int × List Int × List Int × (List (Int × Int × Bool)) × (List (Int × Int)) × (List (List (Int × Int))) × (List (Int × Int × Int × Int × Bool)) × Int × Int × Int × Int) → Option Bool) × (((Int × Int × Int) × (List (Int × Int × Int × Int)) × (Int × Int × Bool × Bool × Int × Int × Int × Int × Int × Bool) × ((List (Int × Int)) × Int) × Int × Int × Int × Int × Int × Int × List Int × List Int × (List (Int × Int × Bool)) × (List (Int × Int)) × (List (List (Int × Int))) × (List (Int × Int × Int × Int × Bool)) × Int × Int × Int × Int) → Option Bool)) (v : (Int × Int × Int × Int × Int × Int × List Int × List Int × (List (Int × Int × Bool)) × (List (Int × Int)) × (List (List (Int × Int))) × (List (Int × Int × Int × Int × Bool)) × Int × Int × Int × Int) × (List (Int × Int)) × Int) : Option Bool :=
  (F17_0 v.1).bind fun r2280 =>
  bif (!r2280) then
    some (true)
  else
    bif (decide (((v.2.1).length : Int) > (300 : Int))) then
      some (true)
    else
      K.1 (((0 : Int), (1 : Int)), (((0 : Int), ((0 : Int), (false, (false, ((0 : Int), ((0 : Int), ((0 : Int), ((0 : Int), ((0 : Int), false))))))))), (v.2, v.1)))

def K9_0 : Nat → (((Int × Int) × (Int × Int × Bool × Bool × Int × Int × Int × Int × Int × Bool) × ((List (Int × Int)) × Int) × Int × Int × Int × Int × Int × Int × List Int × List Int × (List (Int × Int × Bool)) × (List (Int × Int)) × (List (List (Int × Int))) × (List (Int × Int × Int × Int × Bool)) × Int × Int × Int × Int) → Option Bool) × (((Int × Int × Int) × (List (Int × Int × Int × Int)) × (Int × Int × Bool × Bool × Int × Int × Int × Int × Int × Bool) × ((List (Int × Int)) × Int) × Int × Int × Int × Int × Int × Int × List Int × List Int × (List (Int × Int × Bool)) × (List (Int × Int)) × (List (List (Int × Int))) × (List (Int × Int × Int × Int × Bool)) × Int × Int × Int × Int) → Option Bool)
  | 0 => (fun _ => none, fun _ => none)
  | n + 1 => (B9_0_6 (K9_0 n), B9_0_11 (K9_0 n))
def fuel9_0 (v : (Int × Int × Int × Int × Int × Int × List Int × List Int × (List (Int × Int × Bool)) × (List (Int × Int)) × (List (List (Int × Int))) × (List (Int × Int × Int × Int × Bool)) × Int × Int × Int × Int) × (List (Int × Int)) × Int) : Nat := 40000
def F9_0 (v : (Int × Int × Int × Int × Int × Int × List Int × List Int × (List (Int × Int × Bool)) × (List (Int × Int)) × (List (List (Int × Int))) × (List (Int × Int × Int × Int × Bool)) × Int × Int × Int × Int) × (List (Int × Int)) × Int) : Option Bool := E9_0 (K9_0 (fuel9_0 v)) v
noncomputable def k9_0 : List (Known Try.prog E) := [Known.of envOk [9] [(.agg [.keep, .keep, .keep, .keep, .keep, .keep, (.ros 23), (.ros 3), (.ros 110), (.ros 25), (.ros 43), (.ros 40), .keep, .keep, .keep, .keep])] v17_0 F17_0 w17_0 ok17_0, Known.of envOk [9, 9, 9, 9, 2] [(.agg [.keep, .keep, .keep, .keep, .keep, .keep, (.ros 23), (.ros 3), (.ros 110), (.ros 25), (.ros 43), (.ros 40), .keep, .keep, .keep, .keep]), (.agg [.keep, .keep, .keep, .keep, .keep, .keep, .keep, .keep, .keep, .keep]), (.agg [.keep, .keep]), (.agg [.keep, .keep]), .keep] v20_0 F20_0 w20_0 ok20_0, Known.of envOk [] [] v19_0 F19_0 w19_0 ok19_0]
def s9_0_11 : List (Nat × Pat) := [(2, (.ptr 0 0 53 [.keep, .keep, .keep, .keep, .keep, .keep, (.ros 23), (.ros 3), (.ros 110), (.ros 25), (.ros 43), (.ros 40), .keep, .keep, .keep, .keep])), (3, (.ptr 1 0 59 [(.ros 25), .keep])), (5, (.ptr 2 0 56 [.keep, .keep, .keep, .keep, .keep, .keep, .keep, .keep, .keep, .keep])), (6, .keep), (7, .keep), (8, (.own 3 68)), (9, .keep)]
def s9_0_6 : List (Nat × Pat) := [(2, (.ptr 0 0 53 [.keep, .keep, .keep, .keep, .keep, .keep, (.ros 23), (.ros 3), (.ros 110), (.ros 25), (.ros 43), (.ros 40), .keep, .keep, .keep, .keep])), (3, (.ptr 1 0 59 [(.ros 25), .keep])), (5, (.ptr 2 0 56 [.keep, .keep, .keep, .keep, .keep, .keep, .keep, .keep, .keep, .keep])), (6, .keep), (7, .keep)]
noncomputable def L9_0 (n id : Nat) (st : St G) : Option Bool := match Nat.beq id 6 with | true => cutK Try.prog s9_0_6 [] c9_0_6.dec (K9_0 n).1 st | false => match Nat.beq id 11 with | true => cutK Try.prog s9_0_11 [] c9_0_11.dec (K9_0 n).2 st | false => none
set_option maxRecDepth 100000 in
theorem e9_0 (n : Nat) (v : (Int × Int × Int × Int × Int × Int × List Int × List Int × (List (Int × Int × Bool)) × (List (Int × Int)) × (List (List (Int × Int))) × (List (Int × Int × Int × Int × Bool)) × Int × Int × Int × Int) × (List (Int × Int)) × Int) : ev Try.prog E (oracle k9_0) Try.f9.ntmps (fun x => mem x [6, 11]) (L9_0 n) (finA Try.prog E Try.f9.results.toList [] w9_0.alts) 4000 [.code (Try.f9.body.getD .skip)] (argSt (v9_0.enc v)) = E9_0 (K9_0 n) v := by kernel_rfl
set_option maxRecDepth 100000 in
theorem b9_0_6 (n : Nat) (v : (Int × Int) × (Int × Int × Bool × Bool × Int × Int × Int × Int × Int × Bool) × ((List (Int × Int)) × Int) × Int × Int × Int × Int × Int × Int × List Int × List Int × (List (Int × Int × Bool)) × (List (Int × Int)) × (List (List (Int × Int))) × (List (Int × Int × Int × Int × Bool)) × Int × Int × Int × Int) : evCut Try.prog E (oracle k9_0) Try.f9.ntmps (fun x => mem x [6, 11]) (L9_0 n) (finA Try.prog E Try.f9.results.toList [] w9_0.alts) 4000 (todoAt (Try.f9.body.getD .skip) 6) (cutSt s9_0_6 (c9_0_6.enc v)) = B9_0_6 (K9_0 n) v := by kernel_rfl
set_option maxRecDepth 100000 in
theorem b9_0_11 (n : Nat) (v : (Int × Int × Int) × (List (Int × Int × Int × Int)) × (Int × Int × Bool × Bool × Int × Int × Int × Int × Int × Bool) × ((List (Int × Int)) × Int) × Int × Int × Int × Int × Int × Int × List Int × List Int × (List (Int × Int × Bool)) × (List (Int × Int)) × (List (List (Int × Int))) × (List (Int × Int × Int × Int × Bool)) × Int × Int × Int × Int) : evCut Try.prog E (oracle k9_0) Try.f9.ntmps (fun x => mem x [6, 11]) (L9_0 n) (finA Try.prog E Try.f9.results.toList [] w9_0.alts) 4000 (todoAt (Try.f9.body.getD .skip) 11) (cutSt s9_0_11 (c9_0_11.enc v)) = B9_0_11 (K9_0 n) v := by kernel_rfl
theorem ok9_0 : FnOk Try.prog E 9 v9_0.enc F9_0 w9_0.enc :=
  fn_known (fn := Try.f9) (c := (Try.f9.body.getD .skip)) Try.func9 (by kernel_rfl) rfl envOk (oracle_ok k9_0) mixed v9_0 F9_0 w9_0 [] [6, 11] 4000 L9_0 (by kernel_rfl)
    (List.forall_mem_cons.2 ⟨⟨_, s9_0_6, c9_0_6.dec, c9_0_6.enc, fun n => (K9_0 n).1, c9_0_6.ok, fun _ _ => rfl, fun _ => rfl, fun n v _ h => (b9_0_6 n v).trans h⟩, List.forall_mem_cons.2 ⟨⟨_, s9_0_11, c9_0_11.dec, c9_0_11.enc, fun n => (K9_0 n).2, c9_0_11.ok, fun _ _ => rfl, fun _ => rfl, fun n v _ h => (b9_0_11 n v).trans h⟩, fun _ h => (nomatch h)⟩⟩) (fun v _ h => ⟨fuel9_0 v, (e9_0 _ v).trans h⟩) (fun _ => by kernel_rfl) (fun _ => by kernel_rfl) (fun _ _ => by kernel_rfl)
def Dom3_0 (v : (List (Int × Int × Int × Int × Bool)) × Int × Int × Int × Int × Int) : Prop := (((v.1).length ≤ maxLen ∧ ∀ x ∈ v.1, (Lit.int .i64 x.1).wf = true ∧ (Lit.int .i64 x.2.1).wf = true ∧ (Lit.int .i64 x.2.2.1).wf = true ∧ (Lit.int .i64 x.2.2.2.1).wf = true)) ∧ (Lit.int .i64 v.2.1).wf = true ∧ ((Lit.int .i64 v.2.2.1).wf = true ∧ (Lit.int .i64 v.2.2.2.1).wf = true ∧ (Lit.int .i64 v.2.2.2.2.1).wf = true ∧ (Lit.int .i64 v.2.2.2.2.2).wf = true)
def Dom4_0 (v : (List (Int × Int × Int × Int × Bool)) × Int × Int × Int × Int × Int) : Prop := (((v.1).length ≤ maxLen ∧ ∀ x ∈ v.1, (Lit.int .i64 x.1).wf = true ∧ (Lit.int .i64 x.2.1).wf = true ∧ (Lit.int .i64 x.2.2.1).wf = true ∧ (Lit.int .i64 x.2.2.2.1).wf = true)) ∧ (Lit.int .i64 v.2.1).wf = true ∧ ((Lit.int .i64 v.2.2.1).wf = true ∧ (Lit.int .i64 v.2.2.2.1).wf = true ∧ (Lit.int .i64 v.2.2.2.2.1).wf = true ∧ (Lit.int .i64 v.2.2.2.2.2).wf = true)
def Dom5_0 (v : (Int × Int × Int × Int × Bool) × List (Int × Int)) : Prop := ((Lit.int .i64 v.1.1).wf = true ∧ (Lit.int .i64 v.1.2.1).wf = true ∧ (Lit.int .i64 v.1.2.2.1).wf = true ∧ (Lit.int .i64 v.1.2.2.2.1).wf = true) ∧ (((v.2).length ≤ maxLen ∧ ∀ x ∈ v.2, (Lit.int .i64 x.1).wf = true ∧ (Lit.int .i64 x.2).wf = true))
def Dom6_0 (v : (List (Int × Int × Int × Int × Bool)) × Int × List (Int × Int × Bool)) : Prop := (((v.1).length ≤ maxLen ∧ ∀ x ∈ v.1, (Lit.int .i64 x.1).wf = true ∧ (Lit.int .i64 x.2.1).wf = true ∧ (Lit.int .i64 x.2.2.1).wf = true ∧ (Lit.int .i64 x.2.2.2.1).wf = true)) ∧ (Lit.int .i64 v.2.1).wf = true ∧ (((v.2.2).length ≤ maxLen ∧ ∀ x ∈ v.2.2, (Lit.int .i64 x.1).wf = true ∧ (Lit.int .u32 x.2.1).wf = true))
def Dom7_0 (v : (Int × Int × Int × Int × Int × Int × List Int × List Int × (List (Int × Int × Bool)) × (List (Int × Int)) × (List (List (Int × Int))) × (List (Int × Int × Int × Int × Bool)) × Int × Int × Int × Int) × (Int × Int × Bool × Bool × Int × Int × Int × Int × Int × Bool) × (List (Int × Int)) × Int) : Prop := ((Lit.int .i64 v.1.1).wf = true ∧ (Lit.int .i64 v.1.2.1).wf = true ∧ (Lit.int .i64 v.1.2.2.1).wf = true ∧ (Lit.int .i64 v.1.2.2.2.1).wf = true ∧ (Lit.int .i64 v.1.2.2.2.2.1).wf = true ∧ (Lit.int .i64 v.1.2.2.2.2.2.1).wf = true ∧ (((v.1.2.2.2.2.2.2.1).length ≤ maxLen ∧ ∀ x ∈ v.1.2.2.2.2.2.2.1, (Lit.int .i64 x).wf = true)) ∧ (((v.1.2.2.2.2.2.2.2.1).length ≤ maxLen ∧ ∀ x ∈ v.1.2.2.2.2.2.2.2.1, (Lit.int .i64 x).wf = true)) ∧ (((v.1.2.2.2.2.2.2.2.2.1).length ≤ maxLen ∧ ∀ x ∈ v.1.2.2.2.2.2.2.2.2.1, (Lit.int .i64 x.1).wf = true ∧ (Lit.int .i64 x.2.1).wf = true)) ∧ (((v.1.2.2.2.2.2.2.2.2.2.1).length ≤ maxLen ∧ ∀ x ∈ v.1.2.2.2.2.2.2.2.2.2.1, (Lit.int .i64 x.1).wf = true ∧ (Lit.int .i64 x.2).wf = true)) ∧ (((v.1.2.2.2.2.2.2.2.2.2.2.1).length ≤ maxLen ∧ ∀ x ∈ v.1.2.2.2.2.2.2.2.2.2.2.1, (((x).length ≤ maxLen ∧ ∀ y ∈ x, (Lit.int .i64 y.1).wf = true ∧ (Lit.int .i64 y.2).wf = true)))) ∧ (((v.1.2.2.2.2.2.2.2.2.2.2.2.1).length ≤ maxLen ∧ ∀ x ∈ v.1.2.2.2.2.2.2.2.2.2.2.2.1, (Lit.int .i64 x.1).wf = true ∧ (Lit.int .i64 x.2.1).wf = true ∧ (Lit.int .i64 x.2.2.1).wf = true ∧ (Lit.int .i64 x.2.2.2.1).wf = true)) ∧ (Lit.int .i64 v.1.2.2.2.2.2.2.2.2.2.2.2.2.1).wf = true ∧ (Lit.int .i64 v.1.2.2.2.2.2.2.2.2.2.2.2.2.2.1).wf = true ∧ (Lit.int .u32 v.1.2.2.2.2.2.2.2.2.2.2.2.2.2.2.1).wf = true ∧ (Lit.int .i64 v.1.2.2.2.2.2.2.2.2.2.2.2.2.2.2.2).wf = true) ∧ ((Lit.int .i64 v.2.1.1).wf = true ∧ (Lit.int .i64 v.2.1.2.1).wf = true ∧ (Lit.int .i64 v.2.1.2.2.2.2.1).wf = true ∧ (Lit.int .i64 v.2.1.2.2.2.2.2.1).wf = true ∧ (Lit.int .i64 v.2.1.2.2.2.2.2.2.1).wf = true ∧ (Lit.int .i64 v.2.1.2.2.2.2.2.2.2.1).wf = true ∧ (Lit.int .i64 v.2.1.2.2.2.2.2.2.2.2.1).wf = true) ∧ ((((v.2.2.1).length ≤ maxLen ∧ ∀ x ∈ v.2.2.1, (Lit.int .i64 x.1).wf = true ∧ (Lit.int .i64 x.2).wf = true)) ∧ (Lit.int .u64 v.2.2.2).wf = true)
def Dom8_0 (v : (Int × Int × Int × Int × Int × Int × List Int × List Int × (List (Int × Int × Bool)) × (List (Int × Int)) × (List (List (Int × Int))) × (List (Int × Int × Int × Int × Bool)) × Int × Int × Int × Int) × (List (Int × Int)) × Int) : Prop := ((Lit.int .i64 v.1.1).wf = true ∧ (Lit.int .i64 v.1.2.1).wf = true ∧ (Lit.int .i64 v.1.2.2.1).wf = true ∧ (Lit.int .i64 v.1.2.2.2.1).wf = true ∧ (Lit.int .i64 v.1.2.2.2.2.1).wf = true ∧ (Lit.int .i64 v.1.2.2.2.2.2.1).wf = true ∧ (((v.1.2.2.2.2.2.2.1).length ≤ maxLen ∧ ∀ x ∈ v.1.2.2.2.2.2.2.1, (Lit.int .i64 x).wf = true)) ∧ (((v.1.2.2.2.2.2.2.2.1).length ≤ maxLen ∧ ∀ x ∈ v.1.2.2.2.2.2.2.2.1, (Lit.int .i64 x).wf = true)) ∧ (((v.1.2.2.2.2.2.2.2.2.1).length ≤ maxLen ∧ ∀ x ∈ v.1.2.2.2.2.2.2.2.2.1, (Lit.int .i64 x.1).wf = true ∧ (Lit.int .i64 x.2.1).wf = true)) ∧ (((v.1.2.2.2.2.2.2.2.2.2.1).length ≤ maxLen ∧ ∀ x ∈ v.1.2.2.2.2.2.2.2.2.2.1, (Lit.int .i64 x.1).wf = true ∧ (Lit.int .i64 x.2).wf = true)) ∧ (((v.1.2.2.2.2.2.2.2.2.2.2.1).length ≤ maxLen ∧ ∀ x ∈ v.1.2.2.2.2.2.2.2.2.2.2.1, (((x).length ≤ maxLen ∧ ∀ y ∈ x, (Lit.int .i64 y.1).wf = true ∧ (Lit.int .i64 y.2).wf = true)))) ∧ (((v.1.2.2.2.2.2.2.2.2.2.2.2.1).length ≤ maxLen ∧ ∀ x ∈ v.1.2.2.2.2.2.2.2.2.2.2.2.1, (Lit.int .i64 x.1).wf = true ∧ (Lit.int .i64 x.2.1).wf = true ∧ (Lit.int .i64 x.2.2.1).wf = true ∧ (Lit.int .i64 x.2.2.2.1).wf = true)) ∧ (Lit.int .i64 v.1.2.2.2.2.2.2.2.2.2.2.2.2.1).wf = true ∧ (Lit.int .i64 v.1.2.2.2.2.2.2.2.2.2.2.2.2.2.1).wf = true ∧ (Lit.int .u32 v.1.2.2.2.2.2.2.2.2.2.2.2.2.2.2.1).wf = true ∧ (Lit.int .i64 v.1.2.2.2.2.2.2.2.2.2.2.2.2.2.2.2).wf = true) ∧ ((((v.2.1).length ≤ maxLen ∧ ∀ x ∈ v.2.1, (Lit.int .i64 x.1).wf = true ∧ (Lit.int .i64 x.2).wf = true)) ∧ (Lit.int .u64 v.2.2).wf = true)
def Dom9_0 (v : (Int × Int × Int × Int × Int × Int × List Int × List Int × (List (Int × Int × Bool)) × (List (Int × Int)) × (List (List (Int × Int))) × (List (Int × Int × Int × Int × Bool)) × Int × Int × Int × Int) × (List (Int × Int)) × Int) : Prop := ((Lit.int .i64 v.1.1).wf = true ∧ (Lit.int .i64 v.1.2.1).wf = true ∧ (Lit.int .i64 v.1.2.2.1).wf = true ∧ (Lit.int .i64 v.1.2.2.2.1).wf = true ∧ (Lit.int .i64 v.1.2.2.2.2.1).wf = true ∧ (Lit.int .i64 v.1.2.2.2.2.2.1).wf = true ∧ (((v.1.2.2.2.2.2.2.1).length ≤ maxLen ∧ ∀ x ∈ v.1.2.2.2.2.2.2.1, (Lit.int .i64 x).wf = true)) ∧ (((v.1.2.2.2.2.2.2.2.1).length ≤ maxLen ∧ ∀ x ∈ v.1.2.2.2.2.2.2.2.1, (Lit.int .i64 x).wf = true)) ∧ (((v.1.2.2.2.2.2.2.2.2.1).length ≤ maxLen ∧ ∀ x ∈ v.1.2.2.2.2.2.2.2.2.1, (Lit.int .i64 x.1).wf = true ∧ (Lit.int .i64 x.2.1).wf = true)) ∧ (((v.1.2.2.2.2.2.2.2.2.2.1).length ≤ maxLen ∧ ∀ x ∈ v.1.2.2.2.2.2.2.2.2.2.1, (Lit.int .i64 x.1).wf = true ∧ (Lit.int .i64 x.2).wf = true)) ∧ (((v.1.2.2.2.2.2.2.2.2.2.2.1).length ≤ maxLen ∧ ∀ x ∈ v.1.2.2.2.2.2.2.2.2.2.2.1, (((x).length ≤ maxLen ∧ ∀ y ∈ x, (Lit.int .i64 y.1).wf = true ∧ (Lit.int .i64 y.2).wf = true)))) ∧ (((v.1.2.2.2.2.2.2.2.2.2.2.2.1).length ≤ maxLen ∧ ∀ x ∈ v.1.2.2.2.2.2.2.2.2.2.2.2.1, (Lit.int .i64 x.1).wf = true ∧ (Lit.int .i64 x.2.1).wf = true ∧ (Lit.int .i64 x.2.2.1).wf = true ∧ (Lit.int .i64 x.2.2.2.1).wf = true)) ∧ (Lit.int .i64 v.1.2.2.2.2.2.2.2.2.2.2.2.2.1).wf = true ∧ (Lit.int .i64 v.1.2.2.2.2.2.2.2.2.2.2.2.2.2.1).wf = true ∧ (Lit.int .u32 v.1.2.2.2.2.2.2.2.2.2.2.2.2.2.2.1).wf = true ∧ (Lit.int .i64 v.1.2.2.2.2.2.2.2.2.2.2.2.2.2.2.2).wf = true) ∧ ((((v.2.1).length ≤ maxLen ∧ ∀ x ∈ v.2.1, (Lit.int .i64 x.1).wf = true ∧ (Lit.int .i64 x.2).wf = true)) ∧ (Lit.int .u64 v.2.2).wf = true)
end Go.Proofs.Ytdjjinfpfjoniaa.Ev
