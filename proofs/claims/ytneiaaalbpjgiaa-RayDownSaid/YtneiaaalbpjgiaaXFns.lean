import Derived.Test.YtneiaaalbpjgiaaXFnsB
set_option linter.unusedVariables false
namespace Go.Proofs.Ytneiaaalbpjgiaa.Ev
open Go Go.RowKit
/- chicane/chicanelaw13.RayOn -/
abbrev A9_0 : Type := (Int × Int × Int × Int × Int × Int × List Int × List Int × (List (Int × Int × Bool)) × (List (Int × Int)) × (List (List (Int × Int))) × (List (Int × Int × Int × Int × Bool)) × Int × Int × Int × Int) × Int × Int × Int × Int × Int × Int × Int
abbrev R9_0 : Type := Bool
def v9_0 : Pk G ((Int × Int × Int × Int × Int × Int × List Int × List Int × (List (Int × Int × Bool)) × (List (Int × Int)) × (List (List (Int × Int))) × (List (Int × Int × Int × Int × Bool)) × Int × Int × Int × Int) × Int × Int × Int × Int × Int × Int × Int) := (Pk.fst (pk (Sh.cons (Sh.agg (Sh.cons (Sh.int .i64) (Sh.cons (Sh.int .i64) (Sh.cons (Sh.int .i64) (Sh.cons (Sh.int .i64) (Sh.cons (Sh.int .i64) (Sh.cons (Sh.int .i64) (Sh.cons (Sh.ros 22) (Sh.cons (Sh.ros 3) (Sh.cons (Sh.ros 86) (Sh.cons (Sh.ros 24) (Sh.cons (Sh.ros 28) (Sh.cons (Sh.ros 196) (Sh.cons (Sh.int .i64) (Sh.cons (Sh.int .i64) (Sh.cons (Sh.int .u32) (Sh.fst (Sh.cons (Sh.int .i64) Sh.nil)))))))))))))))))) (Sh.fst (Sh.cons (Sh.agg (Sh.cons (Sh.int .i64) (Sh.cons (Sh.int .i64) (Sh.cons (Sh.int .i64) (Sh.cons (Sh.int .i64) (Sh.cons (Sh.int .i64) (Sh.cons (Sh.int .i64) (Sh.fst (Sh.cons (Sh.int .i64) Sh.nil))))))))) Sh.nil))) Sh.hnil))
def w9_0 : Wk G Bool := (Wk.one [.keep] (Pk.fst (pk (Sh.fst (Sh.cons Sh.bool Sh.nil)) Sh.hnil)))
def F9_0 (v : (Int × Int × Int × Int × Int × Int × List Int × List Int × (List (Int × Int × Bool)) × (List (Int × Int)) × (List (List (Int × Int))) × (List (Int × Int × Int × Int × Bool)) × Int × Int × Int × Int) × Int × Int × Int × Int × Int × Int × Int) : Option Bool :=
  (F35_0 v.1).bind fun r3227 =>
  bif (!r3227) then
    (F34_0 ()).bind fun r3228 =>
    some (r3228)
  else
    bif (decide (v.2.2.2.2.2.2.1 > (-2147483648 : Int))) then
      (F34_0 ()).bind fun r3229 =>
      some (r3229)
    else
      bif (decide (v.2.2.2.2.1 > (536870912 : Int))) then
        (F34_0 ()).bind fun r3230 =>
        some (r3230)
      else
        bif (decide (v.2.2.2.2.1 < (-536870912 : Int))) then
          (F34_0 ()).bind fun r3231 =>
          some (r3231)
        else
          bif (decide (v.2.2.2.2.2.1 > (536870912 : Int))) then
            (F34_0 ()).bind fun r3232 =>
            some (r3232)
          else
            bif (decide (v.2.2.2.2.2.1 < (-536870912 : Int))) then
              (F34_0 ()).bind fun r3233 =>
              some (r3233)
            else
              bif (decide (v.2.1 > (35184372088832 : Int))) then
                (F34_0 ()).bind fun r3234 =>
                some (r3234)
              else
                bif (decide (v.2.1 < (-35184372088832 : Int))) then
                  (F34_0 ()).bind fun r3235 =>
                  some (r3235)
                else
                  bif (decide (v.2.2.1 > (35184372088832 : Int))) then
                    (F34_0 ()).bind fun r3236 =>
                    some (r3236)
                  else
                    bif (decide (v.2.2.1 < (-35184372088832 : Int))) then
                      (F34_0 ()).bind fun r3237 =>
                      some (r3237)
                    else
                      (F14_0 v.1).bind fun r3238 =>
                      match r3238 with
                      | .inl r3239 =>
                        (F36_1 (((v.2.1, (v.2.2.1, v.2.2.2.1)), ((v.2.2.2.2.1, (v.2.2.2.2.2.1, v.2.2.2.2.2.2.1)), v.2.2.2.2.2.2.2)), false)).bind fun r3241 =>
                        bif (!r3241.1.2) then
                          (F34_0 ()).bind fun r3242 =>
                          some (r3242)
                        else
                          bif (r3241.1.1.1 == (0 : Int)) then
                            (F34_0 ()).bind fun r3243 =>
                            some (r3243)
                          else
                            (F32_0 (((v.2.1, (v.2.2.1, v.2.2.2.1)), ((v.2.2.2.2.1, (v.2.2.2.2.2.1, v.2.2.2.2.2.2.1)), r3241.1.1.1)), r3241.2)).bind fun r3244 =>
                            (F21_1 ((r3244.1.1, r3244.1.2.1), r3244.2)).bind fun r3245 =>
                            (F29_0 ((r3244.1.2.2, r3245.1), r3245.2)).bind fun r3246 =>
                            bif (decide (r3241.1.1.1 > (0 : Int))) then
                              bif (decide (r3241.1.1.1 ≤ v.2.2.2.2.2.2.2)) then
                                (F30_0 r3246).bind fun r3247 =>
                                bif (decide (r3247.1 ≤ (4194304 : Int))) then
                                  (F34_0 ()).bind fun r3248 =>
                                  some (r3248)
                                else
                                  some (false)
                              else
                                some (false)
                            else
                              some (false)
                      | .inr r3240 =>
                        (F36_0 (((v.2.1, (v.2.2.1, v.2.2.2.1)), ((v.2.2.2.2.1, (v.2.2.2.2.2.1, v.2.2.2.2.2.2.1)), v.2.2.2.2.2.2.2)), (r3240.2.1, (r3240.2.2.1, (r3240.2.2.2, false))))).bind fun r3249 =>
                        bif (!r3249.1.2) then
                          (F34_0 ()).bind fun r3250 =>
                          some (r3250)
                        else
                          bif (r3249.1.1.1 == (0 : Int)) then
                            (F34_0 ()).bind fun r3251 =>
                            some (r3251)
                          else
                            (F32_0 (((v.2.1, (v.2.2.1, v.2.2.2.1)), ((v.2.2.2.2.1, (v.2.2.2.2.2.1, v.2.2.2.2.2.2.1)), r3249.1.1.1)), r3249.2.2.1)).bind fun r3252 =>
                            (F21_0 ((r3252.1.1, r3252.1.2.1), (r3252.2, (r3249.2.1, (r3249.2.2.2.2, r3249.2.2.2.1))))).bind fun r3253 =>
                            (F29_0 ((r3252.1.2.2, r3253.1), r3253.2.1)).bind fun r3254 =>
                            bif (decide (r3249.1.1.1 > (0 : Int))) then
                              bif (decide (r3249.1.1.1 ≤ v.2.2.2.2.2.2.2)) then
                                (F30_0 r3254).bind fun r3255 =>
                                bif (decide (r3255.1 ≤ (4194304 : Int))) then
                                  (F34_0 ()).bind fun r3256 =>
                                  some (r3256)
                                else
                                  some (false)
                              else
                                some (false)
                            else
                              some (false)

noncomputable def k9_0 : List (Known Try.prog E) := [Known.of envOk [9] [(.agg [.keep, .keep, .keep, .keep, .keep, .keep, (.ros 22), (.ros 3), (.ros 86), (.ros 24), (.ros 28), (.ros 196), .keep, .keep, .keep, .keep])] v35_0 F35_0 w35_0 ok35_0, Known.of envOk [] [] v34_0 F34_0 w34_0 ok34_0, Known.of envOk [9] [(.agg [.keep, .keep, .keep, .keep, .keep, .keep, (.ros 22), (.ros 3), (.ros 86), (.ros 24), (.ros 28), (.ros 196), .keep, .keep, .keep, .keep])] v14_0 F14_0 w14_0 ok14_0, Known.of envOk [5, 4, 9, 9, 1] [(.ptr 0 0 50 [.keep]), .keep, (.agg [.keep, .keep, .keep]), (.agg [.keep, .keep, .keep]), .keep] v36_1 F36_1 w36_1 ok36_1, Known.of envOk [5, 9, 9, 1] [(.ptr 0 0 50 [.keep]), (.agg [.keep, .keep, .keep]), (.agg [.keep, .keep, .keep]), .keep] v32_0 F32_0 w32_0 ok32_0, Known.of envOk [4, 5, 1, 1] [.keep, (.ptr 0 0 50 [.keep]), .keep, .keep] v21_1 F21_1 w21_1 ok21_1, Known.of envOk [5, 1, 1] [(.ptr 0 0 50 [.keep]), .keep, .keep] v29_0 F29_0 w29_0 ok29_0, Known.of envOk [5, 1] [(.ptr 0 0 50 [.keep]), .keep] v30_0 F30_0 w30_0 ok30_0, Known.of envOk [5, 5, 9, 9, 1] [(.ptr 0 0 50 [.keep]), (.ptr 1 0 91 [.keep, .keep, .keep, .keep, .keep, (.own 2 22), (.own 3 3)]), (.agg [.keep, .keep, .keep]), (.agg [.keep, .keep, .keep]), .keep] v36_0 F36_0 w36_0 ok36_0, Known.of envOk [5, 5, 1, 1] [(.ptr 0 0 91 [.keep, .keep, .keep, .keep, .keep, (.own 1 22), (.own 2 3)]), (.ptr 3 0 50 [.keep]), .keep, .keep] v21_0 F21_0 w21_0 ok21_0]
noncomputable def L9_0 (n id : Nat) (st : St G) : Option Bool := none
set_option maxRecDepth 100000 in
theorem e9_0 (n : Nat) (v : (Int × Int × Int × Int × Int × Int × List Int × List Int × (List (Int × Int × Bool)) × (List (Int × Int)) × (List (List (Int × Int))) × (List (Int × Int × Int × Int × Bool)) × Int × Int × Int × Int) × Int × Int × Int × Int × Int × Int × Int) : ev Try.prog E (oracle k9_0) Try.f9.ntmps (fun x => mem x []) (L9_0 n) (finF Try.prog E Try.f9.results.toList [[]] w9_0.alts) 4000 [.code (Try.f9.body.getD .skip)] (argSt (v9_0.enc v)) = F9_0 v := by kernel_rfl
theorem ok9_0 : FnOk Try.prog E 9 v9_0.enc F9_0 w9_0.enc :=
  fn_known (fn := Try.f9) (c := (Try.f9.body.getD .skip)) Try.func9 (by kernel_rfl) rfl envOk (oracle_ok k9_0) mixed v9_0 F9_0 w9_0 [] [[]] (by kernel_rfl) [] 4000 L9_0 (by kernel_rfl)
    (fun _ h => nomatch h) (fun v _ h => ⟨0, (e9_0 _ v).trans h⟩) (fun _ => by kernel_rfl) (fun _ => by kernel_rfl) (fun _ _ => by kernel_rfl)
/- chicane/chicaneref13.in -/
abbrev A74_0 : Type := Int × Int
abbrev R74_0 : Type := Bool
def v74_0 : Pk G (Int × Int) := (Pk.fst (pk (Sh.cons (Sh.int .i64) (Sh.fst (Sh.cons (Sh.int .i64) Sh.nil))) Sh.hnil))
def w74_0 : Wk G Bool := (Wk.one [.keep] (Pk.fst (pk (Sh.fst (Sh.cons Sh.bool Sh.nil)) Sh.hnil)))
def F74_0 (v : Int × Int) : Option Bool :=
  bif (decide (v.1 ≤ v.2)) then
    let x3261 : Int := (IntKind.wrap .i64 (0 - v.2))
    some (decide (v.1 ≥ x3261))
  else
    some (false)

noncomputable def k74_0 : List (Known Try.prog E) := []
noncomputable def L74_0 (n id : Nat) (st : St G) : Option Bool := none
set_option maxRecDepth 100000 in
theorem e74_0 (n : Nat) (v : Int × Int) : ev Try.prog E (oracle k74_0) Try.f74.ntmps (fun x => mem x []) (L74_0 n) (finF Try.prog E Try.f74.results.toList [[]] w74_0.alts) 4000 [.code (Try.f74.body.getD .skip)] (argSt (v74_0.enc v)) = F74_0 v := by kernel_rfl
theorem ok74_0 : FnOk Try.prog E 74 v74_0.enc F74_0 w74_0.enc :=
  fn_known (fn := Try.f74) (c := (Try.f74.body.getD .skip)) Try.func74 (by kernel_rfl) rfl envOk (oracle_ok k74_0) mixed v74_0 F74_0 w74_0 [] [[]] (by kernel_rfl) [] 4000 L74_0 (by kernel_rfl)
    (fun _ h => nomatch h) (fun v _ h => ⟨0, (e74_0 _ v).trans h⟩) (fun _ => by kernel_rfl) (fun _ => by kernel_rfl) (fun _ _ => by kernel_rfl)
/- chicane/chicaneref13.May -/
abbrev A37_0 : Type := (Int × Int × Int) × (Int × Int × Int) × Int
abbrev R37_0 : Type := Bool
def v37_0 : Pk G ((Int × Int × Int) × (Int × Int × Int) × Int) := (Pk.fst (pk (Sh.cons (Sh.agg (Sh.cons (Sh.int .i64) (Sh.cons (Sh.int .i64) (Sh.fst (Sh.cons (Sh.int .i64) Sh.nil))))) (Sh.cons (Sh.agg (Sh.cons (Sh.int .i64) (Sh.cons (Sh.int .i64) (Sh.fst (Sh.cons (Sh.int .i64) Sh.nil))))) (Sh.fst (Sh.cons (Sh.int .i64) Sh.nil)))) Sh.hnil))
def w37_0 : Wk G Bool := (Wk.one [.keep] (Pk.fst (pk (Sh.fst (Sh.cons Sh.bool Sh.nil)) Sh.hnil)))
def F37_0 (v : (Int × Int × Int) × (Int × Int × Int) × Int) : Option Bool :=
  (F74_0 (v.1.1, (281474976710656 : Int))).bind fun r3274 =>
  bif r3274 then
    (F74_0 (v.1.2.1, (281474976710656 : Int))).bind fun r3275 =>
    bif r3275 then
      (F74_0 (v.1.2.2, (4398046511104 : Int))).bind fun r3276 =>
      bif r3276 then
        (F74_0 (v.2.1.1, (4294967296 : Int))).bind fun r3277 =>
        bif r3277 then
          (F74_0 (v.2.1.2.1, (4294967296 : Int))).bind fun r3278 =>
          bif r3278 then
            (F74_0 (v.2.1.2.2, (4294967296 : Int))).bind fun r3279 =>
            bif r3279 then
              bif (decide (v.2.2 ≥ (0 : Int))) then
                some (decide (v.2.2 ≤ (274877906944 : Int)))
              else
                some (false)
            else
              some (false)
          else
            some (false)
        else
          some (false)
      else
        some (false)
    else
      some (false)
  else
    some (false)

noncomputable def k37_0 : List (Known Try.prog E) := [Known.of envOk [1, 1] [.keep, .keep] v74_0 F74_0 w74_0 ok74_0]
noncomputable def L37_0 (n id : Nat) (st : St G) : Option Bool := none
set_option maxRecDepth 100000 in
theorem e37_0 (n : Nat) (v : (Int × Int × Int) × (Int × Int × Int) × Int) : ev Try.prog E (oracle k37_0) Try.f37.ntmps (fun x => mem x []) (L37_0 n) (finF Try.prog E Try.f37.results.toList [[]] w37_0.alts) 4000 [.code (Try.f37.body.getD .skip)] (argSt (v37_0.enc v)) = F37_0 v := by kernel_rfl
theorem ok37_0 : FnOk Try.prog E 37 v37_0.enc F37_0 w37_0.enc :=
  fn_known (fn := Try.f37) (c := (Try.f37.body.getD .skip)) Try.func37 (by kernel_rfl) rfl envOk (oracle_ok k37_0) mixed v37_0 F37_0 w37_0 [] [[]] (by kernel_rfl) [] 4000 L37_0 (by kernel_rfl)
    (fun _ h => nomatch h) (fun v _ h => ⟨0, (e37_0 _ v).trans h⟩) (fun _ => by kernel_rfl) (fun _ => by kernel_rfl) (fun _ _ => by kernel_rfl)
/- (*chicane/field.Field).Normal -/
abbrev A23_1 : Type := (Int × Int) × Bool
abbrev R23_1 : Type := (Int × Int × Int) × Bool
def v23_1 : Pk G ((Int × Int) × Bool) := (pk (Sh.snd (Sh.cons Sh.nilptr (Sh.snd (Sh.cons (Sh.ptr 0 0) (Sh.cons (Sh.int .i64) (Sh.fst (Sh.cons (Sh.int .i64) Sh.nil))))))) (Sh.fst (Sh.hfix 0 50 (Sh.fst (Sh.cons Sh.bool Sh.nil)) Sh.hnil)))
def w23_1 : Wk G ((Int × Int × Int) × Bool) := (Wk.one [(.agg [.keep, .keep, .keep])] (pk (Sh.fst (Sh.cons (Sh.agg (Sh.cons (Sh.int .i64) (Sh.cons (Sh.int .i64) (Sh.fst (Sh.cons (Sh.int .i64) Sh.nil))))) Sh.nil)) (Sh.fst (Sh.hfix 0 50 (Sh.fst (Sh.cons Sh.bool Sh.nil)) Sh.hnil))))
def F23_1 (v : (Int × Int) × Bool) : Option ((Int × Int × Int) × Bool) :=
  some (((0 : Int), ((0 : Int), (0 : Int))), v.2)

noncomputable def k23_1 : List (Known Try.prog E) := []
noncomputable def L23_1 (n id : Nat) (st : St G) : Option ((Int × Int × Int) × Bool) := none
set_option maxRecDepth 100000 in
theorem e23_1 (n : Nat) (v : (Int × Int) × Bool) : ev Try.prog E (oracle k23_1) Try.f23.ntmps (fun x => mem x []) (L23_1 n) (finF Try.prog E Try.f23.results.toList [[(.ptr 0 0 50 [.keep])]] w23_1.alts) 4000 [.code (Try.f23.body.getD .skip)] (argSt (v23_1.enc v)) = F23_1 v := by kernel_rfl
theorem ok23_1 : FnOk Try.prog E 23 v23_1.enc F23_1 w23_1.enc :=
  fn_known (fn := Try.f23) (c := (Try.f23.body.getD .skip)) Try.func23 (by kernel_rfl) rfl envOk (oracle_ok k23_1) mixed v23_1 F23_1 w23_1 [(.ptr 0 0 50 [.keep])] [[(.ptr 0 0 50 [.keep])]] (by kernel_rfl) [] 4000 L23_1 (by kernel_rfl)
    (fun _ h => nomatch h) (fun v _ h => ⟨0, (e23_1 _ v).trans h⟩) (fun _ => by kernel_rfl) (fun _ => by kernel_rfl) (fun _ _ => by kernel_rfl)
/- (*chicane/field.Field).Kind -/
abbrev A25_1 : Type := Int × Int
abbrev R25_1 : Type := Int
def v25_1 : Pk G (Int × Int) := (Pk.fst (pk (Sh.snd (Sh.cons Sh.nilptr (Sh.cons (Sh.int .i64) (Sh.fst (Sh.cons (Sh.int .i64) Sh.nil))))) Sh.hnil))
def w25_1 : Wk G Int := (Wk.one [.keep] (Pk.fst (pk (Sh.fst (Sh.cons (Sh.int .i64) Sh.nil)) Sh.hnil)))
def F25_1 (v : Int × Int) : Option Int :=
  some (0 : Int)

noncomputable def k25_1 : List (Known Try.prog E) := []
noncomputable def L25_1 (n id : Nat) (st : St G) : Option Int := none
set_option maxRecDepth 100000 in
theorem e25_1 (n : Nat) (v : Int × Int) : ev Try.prog E (oracle k25_1) Try.f25.ntmps (fun x => mem x []) (L25_1 n) (finF Try.prog E Try.f25.results.toList [[]] w25_1.alts) 4000 [.code (Try.f25.body.getD .skip)] (argSt (v25_1.enc v)) = F25_1 v := by kernel_rfl
theorem ok25_1 : FnOk Try.prog E 25 v25_1.enc F25_1 w25_1.enc :=
  fn_known (fn := Try.f25) (c := (Try.f25.body.getD .skip)) Try.func25 (by kernel_rfl) rfl envOk (oracle_ok k25_1) mixed v25_1 F25_1 w25_1 [] [[]] (by kernel_rfl) [] 4000 L25_1 (by kernel_rfl)
    (fun _ h => nomatch h) (fun v _ h => ⟨0, (e25_1 _ v).trans h⟩) (fun _ => by kernel_rfl) (fun _ => by kernel_rfl) (fun _ _ => by kernel_rfl)
/- chicane/chicanelaw13.RayDown -/
abbrev A10_0 : Type := (Int × Int × Int × Int × Int × Int × List Int × List Int × (List (Int × Int × Bool)) × (List (Int × Int)) × (List (List (Int × Int))) × (List (Int × Int × Int × Int × Bool)) × Int × Int × Int × Int) × Int × Int × Int
abbrev R10_0 : Type := Bool
def v10_0 : Pk G ((Int × Int × Int × Int × Int × Int × List Int × List Int × (List (Int × Int × Bool)) × (List (Int × Int)) × (List (List (Int × Int))) × (List (Int × Int × Int × Int × Bool)) × Int × Int × Int × Int) × Int × Int × Int) := (Pk.fst (pk (Sh.cons (Sh.agg (Sh.cons (Sh.int .i64) (Sh.cons (Sh.int .i64) (Sh.cons (Sh.int .i64) (Sh.cons (Sh.int .i64) (Sh.cons (Sh.int .i64) (Sh.cons (Sh.int .i64) (Sh.cons (Sh.ros 22) (Sh.cons (Sh.ros 3) (Sh.cons (Sh.ros 86) (Sh.cons (Sh.ros 24) (Sh.cons (Sh.ros 28) (Sh.cons (Sh.ros 196) (Sh.cons (Sh.int .i64) (Sh.cons (Sh.int .i64) (Sh.cons (Sh.int .u32) (Sh.fst (Sh.cons (Sh.int .i64) Sh.nil)))))))))))))))))) (Sh.fst (Sh.cons (Sh.agg (Sh.cons (Sh.int .i64) (Sh.cons (Sh.int .i64) (Sh.fst (Sh.cons (Sh.int .i64) Sh.nil))))) Sh.nil))) Sh.hnil))
def w10_0 : Wk G Bool := (Wk.one [.keep] (Pk.fst (pk (Sh.fst (Sh.cons Sh.bool Sh.nil)) Sh.hnil)))
def F10_0 (v : (Int × Int × Int × Int × Int × Int × List Int × List Int × (List (Int × Int × Bool)) × (List (Int × Int)) × (List (List (Int × Int))) × (List (Int × Int × Int × Int × Bool)) × Int × Int × Int × Int) × Int × Int × Int) : Option Bool :=
  (F35_0 v.1).bind fun r3328 =>
  bif (!r3328) then
    (F34_0 ()).bind fun r3329 =>
    some (r3329)
  else
    (F37_0 (v.2, (((0 : Int), ((0 : Int), (-4294967296 : Int))), (0 : Int)))).bind fun r3330 =>
    bif (!r3330) then
      (F34_0 ()).bind fun r3331 =>
      some (r3331)
    else
      (F14_0 v.1).bind fun r3332 =>
      match r3332 with
      | .inl r3333 =>
        (F21_1 ((v.2.1, v.2.2.1), false)).bind fun r3335 =>
        (F29_0 ((v.2.2.2, r3335.1), r3335.2)).bind fun r3336 =>
        (F36_1 ((v.2, (((0 : Int), ((0 : Int), (-4294967296 : Int))), (274877906944 : Int))), r3336.2)).bind fun r3337 =>
        bif (decide (r3336.1 > (274877906944 : Int))) then
          bif (!r3337.1.2) then
            (F34_0 ()).bind fun r3338 =>
            some (r3338)
          else
            some (false)
        else
          bif r3337.1.2 then
            let x3339 : Int := (if (0 : Int) > r3336.1 then (0 : Int) else r3336.1)
            bif (r3337.1.1.1 == x3339) then
              (F23_1 ((v.2.1, v.2.2.1), r3337.2)).bind fun r3340 =>
              let x3341 : Bool := ((r3337.1.1.2.1 == r3340.1.1) && ((r3337.1.1.2.2.1 == r3340.1.2.1) && ((r3337.1.1.2.2.2.1 == r3340.1.2.2) && true)))
              bif x3341 then
                (F25_1 (v.2.1, v.2.2.1)).bind fun r3342 =>
                bif (r3337.1.1.2.2.2.2 == r3342) then
                  bif (!r3340.2) then
                    (F34_0 ()).bind fun r3343 =>
                    some (r3343)
                  else
                    some (false)
                else
                  some (false)
              else
                some (false)
            else
              some (false)
          else
            some (false)
      | .inr r3334 =>
        (F21_0 ((v.2.1, v.2.2.1), (false, r3334.2))).bind fun r3344 =>
        (F29_0 ((v.2.2.2, r3344.1), r3344.2.1)).bind fun r3345 =>
        (F36_0 ((v.2, (((0 : Int), ((0 : Int), (-4294967296 : Int))), (274877906944 : Int))), (r3344.2.2.1, (r3344.2.2.2.2, (r3344.2.2.2.1, r3345.2))))).bind fun r3346 =>
        bif (decide (r3345.1 > (274877906944 : Int))) then
          bif (!r3346.1.2) then
            (F34_0 ()).bind fun r3347 =>
            some (r3347)
          else
            some (false)
        else
          bif r3346.1.2 then
            let x3348 : Int := (if (0 : Int) > r3345.1 then (0 : Int) else r3345.1)
            bif (r3346.1.1.1 == x3348) then
              (F23_0 ((v.2.1, v.2.2.1), (r3346.2.2.1, (r3346.2.1, (r3346.2.2.2.2, r3346.2.2.2.1))))).bind fun r3349 =>
              let x3350 : Bool := ((r3346.1.1.2.1 == r3349.1.1) && ((r3346.1.1.2.2.1 == r3349.1.2.1) && ((r3346.1.1.2.2.2.1 == r3349.1.2.2) && true)))
              bif x3350 then
                (F25_0 ((v.2.1, v.2.2.1), (r3349.2.2.1, (r3349.2.2.2.2, r3349.2.2.2.1)))).bind fun r3351 =>
                bif (r3346.1.1.2.2.2.2 == r3351.1) then
                  bif (!r3349.2.1) then
                    (F34_0 ()).bind fun r3352 =>
                    some (r3352)
                  else
                    some (false)
                else
                  some (false)
              else
                some (false)
            else
              some (false)
          else
            some (false)

noncomputable def k10_0 : List (Known Try.prog E) := [Known.of envOk [9] [(.agg [.keep, .keep, .keep, .keep, .keep, .keep, (.ros 22), (.ros 3), (.ros 86), (.ros 24), (.ros 28), (.ros 196), .keep, .keep, .keep, .keep])] v35_0 F35_0 w35_0 ok35_0, Known.of envOk [] [] v34_0 F34_0 w34_0 ok34_0, Known.of envOk [9, 9, 1] [(.agg [.keep, .keep, .keep]), (.agg [.keep, .keep, .keep]), .keep] v37_0 F37_0 w37_0 ok37_0, Known.of envOk [9] [(.agg [.keep, .keep, .keep, .keep, .keep, .keep, (.ros 22), (.ros 3), (.ros 86), (.ros 24), (.ros 28), (.ros 196), .keep, .keep, .keep, .keep])] v14_0 F14_0 w14_0 ok14_0, Known.of envOk [4, 5, 1, 1] [.keep, (.ptr 0 0 50 [.keep]), .keep, .keep] v21_1 F21_1 w21_1 ok21_1, Known.of envOk [5, 1, 1] [(.ptr 0 0 50 [.keep]), .keep, .keep] v29_0 F29_0 w29_0 ok29_0, Known.of envOk [5, 4, 9, 9, 1] [(.ptr 0 0 50 [.keep]), .keep, (.agg [.keep, .keep, .keep]), (.agg [.keep, .keep, .keep]), .keep] v36_1 F36_1 w36_1 ok36_1, Known.of envOk [4, 5, 1, 1] [.keep, (.ptr 0 0 50 [.keep]), .keep, .keep] v23_1 F23_1 w23_1 ok23_1, Known.of envOk [4, 1, 1] [.keep, .keep, .keep] v25_1 F25_1 w25_1 ok25_1, Known.of envOk [5, 5, 1, 1] [(.ptr 0 0 91 [.keep, .keep, .keep, .keep, .keep, (.own 1 22), (.own 2 3)]), (.ptr 3 0 50 [.keep]), .keep, .keep] v21_0 F21_0 w21_0 ok21_0, Known.of envOk [5, 5, 9, 9, 1] [(.ptr 0 0 50 [.keep]), (.ptr 1 0 91 [.keep, .keep, .keep, .keep, .keep, (.own 2 22), (.own 3 3)]), (.agg [.keep, .keep, .keep]), (.agg [.keep, .keep, .keep]), .keep] v36_0 F36_0 w36_0 ok36_0, Known.of envOk [5, 5, 1, 1] [(.ptr 0 0 91 [.keep, .keep, .keep, .keep, .keep, (.own 1 22), (.own 2 3)]), (.ptr 3 0 50 [.keep]), .keep, .keep] v23_0 F23_0 w23_0 ok23_0, Known.of envOk [5, 1, 1] [(.ptr 0 0 91 [.keep, .keep, .keep, .keep, .keep, (.own 1 22), (.own 2 3)]), .keep, .keep] v25_0 F25_0 w25_0 ok25_0]
noncomputable def L10_0 (n id : Nat) (st : St G) : Option Bool := none
set_option maxRecDepth 100000 in
theorem e10_0 (n : Nat) (v : (Int × Int × Int × Int × Int × Int × List Int × List Int × (List (Int × Int × Bool)) × (List (Int × Int)) × (List (List (Int × Int))) × (List (Int × Int × Int × Int × Bool)) × Int × Int × Int × Int) × Int × Int × Int) : ev Try.prog E (oracle k10_0) Try.f10.ntmps (fun x => mem x []) (L10_0 n) (finF Try.prog E Try.f10.results.toList [[]] w10_0.alts) 4000 [.code (Try.f10.body.getD .skip)] (argSt (v10_0.enc v)) = F10_0 v := by kernel_rfl
theorem ok10_0 : FnOk Try.prog E 10 v10_0.enc F10_0 w10_0.enc :=
  fn_known (fn := Try.f10) (c := (Try.f10.body.getD .skip)) Try.func10 (by kernel_rfl) rfl envOk (oracle_ok k10_0) mixed v10_0 F10_0 w10_0 [] [[]] (by kernel_rfl) [] 4000 L10_0 (by kernel_rfl)
    (fun _ h => nomatch h) (fun v _ h => ⟨0, (e10_0 _ v).trans h⟩) (fun _ => by kernel_rfl) (fun _ => by kernel_rfl) (fun _ _ => by kernel_rfl)
def Dom3_0 (v : (Int × Int × Int × Int × Int × Int × List Int × List Int × (List (Int × Int × Bool)) × (List (Int × Int)) × (List (List (Int × Int))) × (List (Int × Int × Int × Int × Bool)) × Int × Int × Int × Int) × (Int × Int) × Int × Int) : Prop := ((Lit.int .i64 v.1.1).wf = true ∧ (Lit.int .i64 v.1.2.1).wf = true ∧ (Lit.int .i64 v.1.2.2.1).wf = true ∧ (Lit.int .i64 v.1.2.2.2.1).wf = true ∧ (Lit.int .i64 v.1.2.2.2.2.1).wf = true ∧ (Lit.int .i64 v.1.2.2.2.2.2.1).wf = true ∧ (((v.1.2.2.2.2.2.2.1).length ≤ maxLen ∧ ∀ x ∈ v.1.2.2.2.2.2.2.1, (Lit.int .i64 x).wf = true)) ∧ (((v.1.2.2.2.2.2.2.2.1).length ≤ maxLen ∧ ∀ x ∈ v.1.2.2.2.2.2.2.2.1, (Lit.int .i64 x).wf = true)) ∧ (((v.1.2.2.2.2.2.2.2.2.1).length ≤ maxLen ∧ ∀ x ∈ v.1.2.2.2.2.2.2.2.2.1, (Lit.int .i64 x.1).wf = true ∧ (Lit.int .i64 x.2.1).wf = true)) ∧ (((v.1.2.2.2.2.2.2.2.2.2.1).length ≤ maxLen ∧ ∀ x ∈ v.1.2.2.2.2.2.2.2.2.2.1, (Lit.int .i64 x.1).wf = true ∧ (Lit.int .i64 x.2).wf = true)) ∧ (((v.1.2.2.2.2.2.2.2.2.2.2.1).length ≤ maxLen ∧ ∀ x ∈ v.1.2.2.2.2.2.2.2.2.2.2.1, (((x).length ≤ maxLen ∧ ∀ y ∈ x, (Lit.int .i64 y.1).wf = true ∧ (Lit.int .i64 y.2).wf = true)))) ∧ (((v.1.2.2.2.2.2.2.2.2.2.2.2.1).length ≤ maxLen ∧ ∀ x ∈ v.1.2.2.2.2.2.2.2.2.2.2.2.1, (Lit.int .i64 x.1).wf = true ∧ (Lit.int .i64 x.2.1).wf = true ∧ (Lit.int .i64 x.2.2.1).wf = true ∧ (Lit.int .i64 x.2.2.2.1).wf = true)) ∧ (Lit.int .i64 v.1.2.2.2.2.2.2.2.2.2.2.2.2.1).wf = true ∧ (Lit.int .i64 v.1.2.2.2.2.2.2.2.2.2.2.2.2.2.1).wf = true ∧ (Lit.int .u32 v.1.2.2.2.2.2.2.2.2.2.2.2.2.2.2.1).wf = true ∧ (Lit.int .i64 v.1.2.2.2.2.2.2.2.2.2.2.2.2.2.2.2).wf = true) ∧ ((Lit.int .i64 v.2.1.1).wf = true ∧ (Lit.int .i64 v.2.1.2).wf = true) ∧ ((Lit.int .i64 v.2.2.1).wf = true ∧ (Lit.int .i64 v.2.2.2).wf = true)
def Dom4_0 (v : (Int × Int × Int × Int × Int × Int × List Int × List Int × (List (Int × Int × Bool)) × (List (Int × Int)) × (List (List (Int × Int))) × (List (Int × Int × Int × Int × Bool)) × Int × Int × Int × Int) × Int × Int) : Prop := ((Lit.int .i64 v.1.1).wf = true ∧ (Lit.int .i64 v.1.2.1).wf = true ∧ (Lit.int .i64 v.1.2.2.1).wf = true ∧ (Lit.int .i64 v.1.2.2.2.1).wf = true ∧ (Lit.int .i64 v.1.2.2.2.2.1).wf = true ∧ (Lit.int .i64 v.1.2.2.2.2.2.1).wf = true ∧ (((v.1.2.2.2.2.2.2.1).length ≤ maxLen ∧ ∀ x ∈ v.1.2.2.2.2.2.2.1, (Lit.int .i64 x).wf = true)) ∧ (((v.1.2.2.2.2.2.2.2.1).length ≤ maxLen ∧ ∀ x ∈ v.1.2.2.2.2.2.2.2.1, (Lit.int .i64 x).wf = true)) ∧ (((v.1.2.2.2.2.2.2.2.2.1).length ≤ maxLen ∧ ∀ x ∈ v.1.2.2.2.2.2.2.2.2.1, (Lit.int .i64 x.1).wf = true ∧ (Lit.int .i64 x.2.1).wf = true)) ∧ (((v.1.2.2.2.2.2.2.2.2.2.1).length ≤ maxLen ∧ ∀ x ∈ v.1.2.2.2.2.2.2.2.2.2.1, (Lit.int .i64 x.1).wf = true ∧ (Lit.int .i64 x.2).wf = true)) ∧ (((v.1.2.2.2.2.2.2.2.2.2.2.1).length ≤ maxLen ∧ ∀ x ∈ v.1.2.2.2.2.2.2.2.2.2.2.1, (((x).length ≤ maxLen ∧ ∀ y ∈ x, (Lit.int .i64 y.1).wf = true ∧ (Lit.int .i64 y.2).wf = true)))) ∧ (((v.1.2.2.2.2.2.2.2.2.2.2.2.1).length ≤ maxLen ∧ ∀ x ∈ v.1.2.2.2.2.2.2.2.2.2.2.2.1, (Lit.int .i64 x.1).wf = true ∧ (Lit.int .i64 x.2.1).wf = true ∧ (Lit.int .i64 x.2.2.1).wf = true ∧ (Lit.int .i64 x.2.2.2.1).wf = true)) ∧ (Lit.int .i64 v.1.2.2.2.2.2.2.2.2.2.2.2.2.1).wf = true ∧ (Lit.int .i64 v.1.2.2.2.2.2.2.2.2.2.2.2.2.2.1).wf = true ∧ (Lit.int .u32 v.1.2.2.2.2.2.2.2.2.2.2.2.2.2.2.1).wf = true ∧ (Lit.int .i64 v.1.2.2.2.2.2.2.2.2.2.2.2.2.2.2.2).wf = true) ∧ ((Lit.int .i64 v.2.1).wf = true ∧ (Lit.int .i64 v.2.2).wf = true)
def Dom5_0 (v : Int × Int × Int × Int × Int × Int × List Int × List Int × (List (Int × Int × Bool)) × (List (Int × Int)) × (List (List (Int × Int))) × (List (Int × Int × Int × Int × Bool)) × Int × Int × Int × Int) : Prop := ((Lit.int .i64 v.1).wf = true ∧ (Lit.int .i64 v.2.1).wf = true ∧ (Lit.int .i64 v.2.2.1).wf = true ∧ (Lit.int .i64 v.2.2.2.1).wf = true ∧ (Lit.int .i64 v.2.2.2.2.1).wf = true ∧ (Lit.int .i64 v.2.2.2.2.2.1).wf = true ∧ (((v.2.2.2.2.2.2.1).length ≤ maxLen ∧ ∀ x ∈ v.2.2.2.2.2.2.1, (Lit.int .i64 x).wf = true)) ∧ (((v.2.2.2.2.2.2.2.1).length ≤ maxLen ∧ ∀ x ∈ v.2.2.2.2.2.2.2.1, (Lit.int .i64 x).wf = true)) ∧ (((v.2.2.2.2.2.2.2.2.1).length ≤ maxLen ∧ ∀ x ∈ v.2.2.2.2.2.2.2.2.1, (Lit.int .i64 x.1).wf = true ∧ (Lit.int .i64 x.2.1).wf = true)) ∧ (((v.2.2.2.2.2.2.2.2.2.1).length ≤ maxLen ∧ ∀ x ∈ v.2.2.2.2.2.2.2.2.2.1, (Lit.int .i64 x.1).wf = true ∧ (Lit.int .i64 x.2).wf = true)) ∧ (((v.2.2.2.2.2.2.2.2.2.2.1).length ≤ maxLen ∧ ∀ x ∈ v.2.2.2.2.2.2.2.2.2.2.1, (((x).length ≤ maxLen ∧ ∀ y ∈ x, (Lit.int .i64 y.1).wf = true ∧ (Lit.int .i64 y.2).wf = true)))) ∧ (((v.2.2.2.2.2.2.2.2.2.2.2.1).length ≤ maxLen ∧ ∀ x ∈ v.2.2.2.2.2.2.2.2.2.2.2.1, (Lit.int .i64 x.1).wf = true ∧ (Lit.int .i64 x.2.1).wf = true ∧ (Lit.int .i64 x.2.2.1).wf = true ∧ (Lit.int .i64 x.2.2.2.1).wf = true)) ∧ (Lit.int .i64 v.2.2.2.2.2.2.2.2.2.2.2.2.1).wf = true ∧ (Lit.int .i64 v.2.2.2.2.2.2.2.2.2.2.2.2.2.1).wf = true ∧ (Lit.int .u32 v.2.2.2.2.2.2.2.2.2.2.2.2.2.2.1).wf = true ∧ (Lit.int .i64 v.2.2.2.2.2.2.2.2.2.2.2.2.2.2.2).wf = true)
def Dom6_0 (v : (Int × Int × Int × Int × Int × Int × List Int × List Int × (List (Int × Int × Bool)) × (List (Int × Int)) × (List (List (Int × Int))) × (List (Int × Int × Int × Int × Bool)) × Int × Int × Int × Int) × Int) : Prop := ((Lit.int .i64 v.1.1).wf = true ∧ (Lit.int .i64 v.1.2.1).wf = true ∧ (Lit.int .i64 v.1.2.2.1).wf = true ∧ (Lit.int .i64 v.1.2.2.2.1).wf = true ∧ (Lit.int .i64 v.1.2.2.2.2.1).wf = true ∧ (Lit.int .i64 v.1.2.2.2.2.2.1).wf = true ∧ (((v.1.2.2.2.2.2.2.1).length ≤ maxLen ∧ ∀ x ∈ v.1.2.2.2.2.2.2.1, (Lit.int .i64 x).wf = true)) ∧ (((v.1.2.2.2.2.2.2.2.1).length ≤ maxLen ∧ ∀ x ∈ v.1.2.2.2.2.2.2.2.1, (Lit.int .i64 x).wf = true)) ∧ (((v.1.2.2.2.2.2.2.2.2.1).length ≤ maxLen ∧ ∀ x ∈ v.1.2.2.2.2.2.2.2.2.1, (Lit.int .i64 x.1).wf = true ∧ (Lit.int .i64 x.2.1).wf = true)) ∧ (((v.1.2.2.2.2.2.2.2.2.2.1).length ≤ maxLen ∧ ∀ x ∈ v.1.2.2.2.2.2.2.2.2.2.1, (Lit.int .i64 x.1).wf = true ∧ (Lit.int .i64 x.2).wf = true)) ∧ (((v.1.2.2.2.2.2.2.2.2.2.2.1).length ≤ maxLen ∧ ∀ x ∈ v.1.2.2.2.2.2.2.2.2.2.2.1, (((x).length ≤ maxLen ∧ ∀ y ∈ x, (Lit.int .i64 y.1).wf = true ∧ (Lit.int .i64 y.2).wf = true)))) ∧ (((v.1.2.2.2.2.2.2.2.2.2.2.2.1).length ≤ maxLen ∧ ∀ x ∈ v.1.2.2.2.2.2.2.2.2.2.2.2.1, (Lit.int .i64 x.1).wf = true ∧ (Lit.int .i64 x.2.1).wf = true ∧ (Lit.int .i64 x.2.2.1).wf = true ∧ (Lit.int .i64 x.2.2.2.1).wf = true)) ∧ (Lit.int .i64 v.1.2.2.2.2.2.2.2.2.2.2.2.2.1).wf = true ∧ (Lit.int .i64 v.1.2.2.2.2.2.2.2.2.2.2.2.2.2.1).wf = true ∧ (Lit.int .u32 v.1.2.2.2.2.2.2.2.2.2.2.2.2.2.2.1).wf = true ∧ (Lit.int .i64 v.1.2.2.2.2.2.2.2.2.2.2.2.2.2.2.2).wf = true) ∧ (Lit.int .i64 v.2).wf = true
def Dom7_0 (v : (Int × Int × Int × Int × Int × Int × List Int × List Int × (List (Int × Int × Bool)) × (List (Int × Int)) × (List (List (Int × Int))) × (List (Int × Int × Int × Int × Bool)) × Int × Int × Int × Int) × (Int × Int) × Int × Int) : Prop := ((Lit.int .i64 v.1.1).wf = true ∧ (Lit.int .i64 v.1.2.1).wf = true ∧ (Lit.int .i64 v.1.2.2.1).wf = true ∧ (Lit.int .i64 v.1.2.2.2.1).wf = true ∧ (Lit.int .i64 v.1.2.2.2.2.1).wf = true ∧ (Lit.int .i64 v.1.2.2.2.2.2.1).wf = true ∧ (((v.1.2.2.2.2.2.2.1).length ≤ maxLen ∧ ∀ x ∈ v.1.2.2.2.2.2.2.1, (Lit.int .i64 x).wf = true)) ∧ (((v.1.2.2.2.2.2.2.2.1).length ≤ maxLen ∧ ∀ x ∈ v.1.2.2.2.2.2.2.2.1, (Lit.int .i64 x).wf = true)) ∧ (((v.1.2.2.2.2.2.2.2.2.1).length ≤ maxLen ∧ ∀ x ∈ v.1.2.2.2.2.2.2.2.2.1, (Lit.int .i64 x.1).wf = true ∧ (Lit.int .i64 x.2.1).wf = true)) ∧ (((v.1.2.2.2.2.2.2.2.2.2.1).length ≤ maxLen ∧ ∀ x ∈ v.1.2.2.2.2.2.2.2.2.2.1, (Lit.int .i64 x.1).wf = true ∧ (Lit.int .i64 x.2).wf = true)) ∧ (((v.1.2.2.2.2.2.2.2.2.2.2.1).length ≤ maxLen ∧ ∀ x ∈ v.1.2.2.2.2.2.2.2.2.2.2.1, (((x).length ≤ maxLen ∧ ∀ y ∈ x, (Lit.int .i64 y.1).wf = true ∧ (Lit.int .i64 y.2).wf = true)))) ∧ (((v.1.2.2.2.2.2.2.2.2.2.2.2.1).length ≤ maxLen ∧ ∀ x ∈ v.1.2.2.2.2.2.2.2.2.2.2.2.1, (Lit.int .i64 x.1).wf = true ∧ (Lit.int .i64 x.2.1).wf = true ∧ (Lit.int .i64 x.2.2.1).wf = true ∧ (Lit.int .i64 x.2.2.2.1).wf = true)) ∧ (Lit.int .i64 v.1.2.2.2.2.2.2.2.2.2.2.2.2.1).wf = true ∧ (Lit.int .i64 v.1.2.2.2.2.2.2.2.2.2.2.2.2.2.1).wf = true ∧ (Lit.int .u32 v.1.2.2.2.2.2.2.2.2.2.2.2.2.2.2.1).wf = true ∧ (Lit.int .i64 v.1.2.2.2.2.2.2.2.2.2.2.2.2.2.2.2).wf = true) ∧ ((Lit.int .i64 v.2.1.1).wf = true ∧ (Lit.int .i64 v.2.1.2).wf = true) ∧ ((Lit.int .i64 v.2.2.1).wf = true ∧ (Lit.int .i64 v.2.2.2).wf = true)
def Dom8_0 (v : (Int × Int × Int) × (Int × Int × Int) × Int) : Prop := ((Lit.int .i64 v.1.1).wf = true ∧ (Lit.int .i64 v.1.2.1).wf = true ∧ (Lit.int .i64 v.1.2.2).wf = true) ∧ ((Lit.int .i64 v.2.1.1).wf = true ∧ (Lit.int .i64 v.2.1.2.1).wf = true ∧ (Lit.int .i64 v.2.1.2.2).wf = true) ∧ (Lit.int .i64 v.2.2).wf = true
def Dom9_0 (v : (Int × Int × Int × Int × Int × Int × List Int × List Int × (List (Int × Int × Bool)) × (List (Int × Int)) × (List (List (Int × Int))) × (List (Int × Int × Int × Int × Bool)) × Int × Int × Int × Int) × Int × Int × Int × Int × Int × Int × Int) : Prop := ((Lit.int .i64 v.1.1).wf = true ∧ (Lit.int .i64 v.1.2.1).wf = true ∧ (Lit.int .i64 v.1.2.2.1).wf = true ∧ (Lit.int .i64 v.1.2.2.2.1).wf = true ∧ (Lit.int .i64 v.1.2.2.2.2.1).wf = true ∧ (Lit.int .i64 v.1.2.2.2.2.2.1).wf = true ∧ (((v.1.2.2.2.2.2.2.1).length ≤ maxLen ∧ ∀ x ∈ v.1.2.2.2.2.2.2.1, (Lit.int .i64 x).wf = true)) ∧ (((v.1.2.2.2.2.2.2.2.1).length ≤ maxLen ∧ ∀ x ∈ v.1.2.2.2.2.2.2.2.1, (Lit.int .i64 x).wf = true)) ∧ (((v.1.2.2.2.2.2.2.2.2.1).length ≤ maxLen ∧ ∀ x ∈ v.1.2.2.2.2.2.2.2.2.1, (Lit.int .i64 x.1).wf = true ∧ (Lit.int .i64 x.2.1).wf = true)) ∧ (((v.1.2.2.2.2.2.2.2.2.2.1).length ≤ maxLen ∧ ∀ x ∈ v.1.2.2.2.2.2.2.2.2.2.1, (Lit.int .i64 x.1).wf = true ∧ (Lit.int .i64 x.2).wf = true)) ∧ (((v.1.2.2.2.2.2.2.2.2.2.2.1).length ≤ maxLen ∧ ∀ x ∈ v.1.2.2.2.2.2.2.2.2.2.2.1, (((x).length ≤ maxLen ∧ ∀ y ∈ x, (Lit.int .i64 y.1).wf = true ∧ (Lit.int .i64 y.2).wf = true)))) ∧ (((v.1.2.2.2.2.2.2.2.2.2.2.2.1).length ≤ maxLen ∧ ∀ x ∈ v.1.2.2.2.2.2.2.2.2.2.2.2.1, (Lit.int .i64 x.1).wf = true ∧ (Lit.int .i64 x.2.1).wf = true ∧ (Lit.int .i64 x.2.2.1).wf = true ∧ (Lit.int .i64 x.2.2.2.1).wf = true)) ∧ (Lit.int .i64 v.1.2.2.2.2.2.2.2.2.2.2.2.2.1).wf = true ∧ (Lit.int .i64 v.1.2.2.2.2.2.2.2.2.2.2.2.2.2.1).wf = true ∧ (Lit.int .u32 v.1.2.2.2.2.2.2.2.2.2.2.2.2.2.2.1).wf = true ∧ (Lit.int .i64 v.1.2.2.2.2.2.2.2.2.2.2.2.2.2.2.2).wf = true) ∧ ((Lit.int .i64 v.2.1).wf = true ∧ (Lit.int .i64 v.2.2.1).wf = true ∧ (Lit.int .i64 v.2.2.2.1).wf = true ∧ (Lit.int .i64 v.2.2.2.2.1).wf = true ∧ (Lit.int .i64 v.2.2.2.2.2.1).wf = true ∧ (Lit.int .i64 v.2.2.2.2.2.2.1).wf = true ∧ (Lit.int .i64 v.2.2.2.2.2.2.2).wf = true)
def Dom10_0 (v : (Int × Int × Int × Int × Int × Int × List Int × List Int × (List (Int × Int × Bool)) × (List (Int × Int)) × (List (List (Int × Int))) × (List (Int × Int × Int × Int × Bool)) × Int × Int × Int × Int) × Int × Int × Int) : Prop := ((Lit.int .i64 v.1.1).wf = true ∧ (Lit.int .i64 v.1.2.1).wf = true ∧ (Lit.int .i64 v.1.2.2.1).wf = true ∧ (Lit.int .i64 v.1.2.2.2.1).wf = true ∧ (Lit.int .i64 v.1.2.2.2.2.1).wf = true ∧ (Lit.int .i64 v.1.2.2.2.2.2.1).wf = true ∧ (((v.1.2.2.2.2.2.2.1).length ≤ maxLen ∧ ∀ x ∈ v.1.2.2.2.2.2.2.1, (Lit.int .i64 x).wf = true)) ∧ (((v.1.2.2.2.2.2.2.2.1).length ≤ maxLen ∧ ∀ x ∈ v.1.2.2.2.2.2.2.2.1, (Lit.int .i64 x).wf = true)) ∧ (((v.1.2.2.2.2.2.2.2.2.1).length ≤ maxLen ∧ ∀ x ∈ v.1.2.2.2.2.2.2.2.2.1, (Lit.int .i64 x.1).wf = true ∧ (Lit.int .i64 x.2.1).wf = true)) ∧ (((v.1.2.2.2.2.2.2.2.2.2.1).length ≤ maxLen ∧ ∀ x ∈ v.1.2.2.2.2.2.2.2.2.2.1, (Lit.int .i64 x.1).wf = true ∧ (Lit.int .i64 x.2).wf = true)) ∧ (((v.1.2.2.2.2.2.2.2.2.2.2.1).length ≤ maxLen ∧ ∀ x ∈ v.1.2.2.2.2.2.2.2.2.2.2.1, (((x).length ≤ maxLen ∧ ∀ y ∈ x, (Lit.int .i64 y.1).wf = true ∧ (Lit.int .i64 y.2).wf = true)))) ∧ (((v.1.2.2.2.2.2.2.2.2.2.2.2.1).length ≤ maxLen ∧ ∀ x ∈ v.1.2.2.2.2.2.2.2.2.2.2.2.1, (Lit.int .i64 x.1).wf = true ∧ (Lit.int .i64 x.2.1).wf = true ∧ (Lit.int .i64 x.2.2.1).wf = true ∧ (Lit.int .i64 x.2.2.2.1).wf = true)) ∧ (Lit.int .i64 v.1.2.2.2.2.2.2.2.2.2.2.2.2.1).wf = true ∧ (Lit.int .i64 v.1.2.2.2.2.2.2.2.2.2.2.2.2.2.1).wf = true ∧ (Lit.int .u32 v.1.2.2.2.2.2.2.2.2.2.2.2.2.2.2.1).wf = true ∧ (Lit.int .i64 v.1.2.2.2.2.2.2.2.2.2.2.2.2.2.2.2).wf = true) ∧ ((Lit.int .i64 v.2.1).wf = true ∧ (Lit.int .i64 v.2.2.1).wf = true ∧ (Lit.int .i64 v.2.2.2).wf = true)
end Go.Proofs.Ytneiaaalbpjgiaa.Ev
