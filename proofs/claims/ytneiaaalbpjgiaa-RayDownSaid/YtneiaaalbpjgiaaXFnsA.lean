import Derived.Test.YtneiaaalbpjgiaaXEnv
set_option linter.unusedVariables false
namespace Go.Proofs.Ytneiaaalbpjgiaa.Ev
open Go Go.RowKit
def sc0 : ByteArray := ⟨#[0, 1, 2, 2, 3, 3, 3, 3, 4, 4, 4, 4, 4, 4, 4, 4, 5, 5, 5, 5, 5, 5, 5, 5, 5, 5, 5, 5, 5, 5, 5, 5, 6, 6, 6, 6, 6, 6, 6, 6, 6, 6, 6, 6, 6, 6, 6, 6, 6, 6, 6, 6, 6, 6, 6, 6, 6, 6, 6, 6, 6, 6, 6, 6, 7, 7, 7, 7, 7, 7, 7, 7, 7, 7, 7, 7, 7, 7, 7, 7, 7, 7, 7, 7, 7, 7, 7, 7, 7, 7, 7, 7, 7, 7, 7, 7, 7, 7, 7, 7, 7, 7, 7, 7, 7, 7, 7, 7, 7, 7, 7, 7, 7, 7, 7, 7, 7, 7, 7, 7, 7, 7, 7, 7, 7, 7, 7, 7, 8, 8, 8, 8, 8, 8, 8, 8, 8, 8, 8, 8, 8, 8, 8, 8, 8, 8, 8, 8, 8, 8, 8, 8, 8, 8, 8, 8, 8, 8, 8, 8, 8, 8, 8, 8, 8, 8, 8, 8, 8, 8, 8, 8, 8, 8, 8, 8, 8, 8, 8, 8, 8, 8, 8, 8, 8, 8, 8, 8, 8, 8, 8, 8, 8, 8, 8, 8, 8, 8, 8, 8, 8, 8, 8, 8, 8, 8, 8, 8, 8, 8, 8, 8, 8, 8, 8, 8, 8, 8, 8, 8, 8, 8, 8, 8, 8, 8, 8, 8, 8, 8, 8, 8, 8, 8, 8, 8, 8, 8, 8, 8, 8, 8, 8, 8, 8, 8, 8, 8, 8, 8, 8, 8, 8, 8, 8, 8]⟩
/- chicane/chicanelaw12.Few -/
abbrev A11_0 : Type := Int × Int × Int × Int × Int × Int × List Int × List Int × (List (Int × Int × Bool)) × (List (Int × Int)) × (List (List (Int × Int))) × (List (Int × Int × Int × Int × Bool)) × Int × Int × Int × Int
abbrev R11_0 : Type := Bool
def v11_0 : Pk G (Int × Int × Int × Int × Int × Int × List Int × List Int × (List (Int × Int × Bool)) × (List (Int × Int)) × (List (List (Int × Int))) × (List (Int × Int × Int × Int × Bool)) × Int × Int × Int × Int) := (Pk.fst (pk (Sh.fst (Sh.cons (Sh.agg (Sh.cons (Sh.int .i64) (Sh.cons (Sh.int .i64) (Sh.cons (Sh.int .i64) (Sh.cons (Sh.int .i64) (Sh.cons (Sh.int .i64) (Sh.cons (Sh.int .i64) (Sh.cons (Sh.ros 22) (Sh.cons (Sh.ros 3) (Sh.cons (Sh.ros 86) (Sh.cons (Sh.ros 24) (Sh.cons (Sh.ros 28) (Sh.cons (Sh.ros 196) (Sh.cons (Sh.int .i64) (Sh.cons (Sh.int .i64) (Sh.cons (Sh.int .u32) (Sh.fst (Sh.cons (Sh.int .i64) Sh.nil)))))))))))))))))) Sh.nil)) Sh.hnil))
def w11_0 : Wk G Bool := (Wk.one [.keep] (Pk.fst (pk (Sh.fst (Sh.cons Sh.bool Sh.nil)) Sh.hnil)))
def F11_0 (v : Int × Int × Int × Int × Int × Int × List Int × List Int × (List (Int × Int × Bool)) × (List (Int × Int)) × (List (List (Int × Int))) × (List (Int × Int × Int × Int × Bool)) × Int × Int × Int × Int) : Option Bool :=
  bif (decide (((v.2.2.2.2.2.2.1).length : Int) ≤ (1200 : Int))) then
    bif (decide (((v.2.2.2.2.2.2.2.1).length : Int) ≤ (1000 : Int))) then
      some (decide (((v.2.2.2.2.2.2.2.2.1).length : Int) ≤ (20 : Int)))
    else
      some (false)
  else
    some (false)

noncomputable def k11_0 : List (Known Try.prog E) := []
noncomputable def L11_0 (n id : Nat) (st : St G) : Option Bool := none
set_option maxRecDepth 100000 in
theorem e11_0 (n : Nat) (v : Int × Int × Int × Int × Int × Int × List Int × List Int × (List (Int × Int × Bool)) × (List (Int × Int)) × (List (List (Int × Int))) × (List (Int × Int × Int × Int × Bool)) × Int × Int × Int × Int) : ev Try.prog E (oracle k11_0) Try.f11.ntmps (fun x => mem x []) (L11_0 n) (finF Try.prog E Try.f11.results.toList [[]] w11_0.alts) 4000 [.code (Try.f11.body.getD .skip)] (argSt (v11_0.enc v)) = F11_0 v := by kernel_rfl
theorem ok11_0 : FnOk Try.prog E 11 v11_0.enc F11_0 w11_0.enc :=
  fn_known (fn := Try.f11) (c := (Try.f11.body.getD .skip)) Try.func11 (by kernel_rfl) rfl envOk (oracle_ok k11_0) mixed v11_0 F11_0 w11_0 [] [[]] (by kernel_rfl) [] 4000 L11_0 (by kernel_rfl)
    (fun _ h => nomatch h) (fun v _ h => ⟨0, (e11_0 _ v).trans h⟩) (fun _ => by kernel_rfl) (fun _ => by kernel_rfl) (fun _ _ => by kernel_rfl)
/- chicane/chicanelaw12.sample -/
abbrev A41_0 : Type := Unit
abbrev R41_0 : Type := (Int × Int × Int × Int × Int × Int × Int × Int × Int × Int) × (List (Int × Int × Bool)) × List Int × List Int
def v41_0 : Pk G Unit := (Pk.snd (pk Sh.nil Sh.hnil))
def w41_0 : Wk G ((Int × Int × Int × Int × Int × Int × Int × Int × Int × Int) × (List (Int × Int × Bool)) × List Int × List Int) := (Wk.one [(.agg [.keep, .keep, .keep, .keep, .keep, .keep, (.own 0 22), (.own 1 3), (.own 2 86), .keep, .keep, .keep, .keep, .keep, .keep, .keep])] (pk (Sh.fst (Sh.cons (Sh.agg (Sh.cons (Sh.int .i64) (Sh.cons (Sh.int .i64) (Sh.cons (Sh.int .i64) (Sh.cons (Sh.int .i64) (Sh.cons (Sh.int .i64) (Sh.cons (Sh.int .i64) (Sh.snd (Sh.cons (Sh.osl 0) (Sh.snd (Sh.cons (Sh.osl 1) (Sh.snd (Sh.cons (Sh.osl 2) (Sh.snd (Sh.cons Sh.nilsl (Sh.snd (Sh.cons Sh.nilsl (Sh.snd (Sh.cons Sh.nilsl (Sh.cons (Sh.int .i64) (Sh.cons (Sh.int .i64) (Sh.cons (Sh.int .u32) (Sh.fst (Sh.cons (Sh.int .i64) Sh.nil)))))))))))))))))))))))) Sh.nil)) (Sh.hrow 2 86 (Sh.hrow 1 3 (Sh.fst (Sh.hrow 0 22 Sh.hnil))))))
def F41_0 (v : Unit) : Option ((Int × Int × Int × Int × Int × Int × Int × Int × Int × Int) × (List (Int × Int × Bool)) × List Int × List Int) :=
  some (((0 : Int), ((17179869184 : Int), ((1 : Int), ((1 : Int), ((0 : Int), ((0 : Int), ((0 : Int), ((0 : Int), ((0 : Int), (0 : Int)))))))))), (([((4294967296 : Int), ((0 : Int), false))] : List (Int × Int × Bool)), (([(0 : Int)] : List Int), ([(0 : Int), (0 : Int), (0 : Int), (17179869184 : Int)] : List Int))))

noncomputable def k41_0 : List (Known Try.prog E) := []
noncomputable def L41_0 (n id : Nat) (st : St G) : Option ((Int × Int × Int × Int × Int × Int × Int × Int × Int × Int) × (List (Int × Int × Bool)) × List Int × List Int) := none
set_option maxRecDepth 100000 in
theorem e41_0 (n : Nat) (v : Unit) : ev Try.prog E (oracle k41_0) Try.f41.ntmps (fun x => mem x []) (L41_0 n) (finF Try.prog E Try.f41.results.toList [[]] w41_0.alts) 4000 [.code (Try.f41.body.getD .skip)] (argSt (v41_0.enc v)) = F41_0 v := by kernel_rfl
theorem ok41_0 : FnOk Try.prog E 41 v41_0.enc F41_0 w41_0.enc :=
  fn_known (fn := Try.f41) (c := (Try.f41.body.getD .skip)) Try.func41 (by kernel_rfl) rfl envOk (oracle_ok k41_0) mixed v41_0 F41_0 w41_0 [] [[]] (by kernel_rfl) [] 4000 L41_0 (by kernel_rfl)
    (fun _ h => nomatch h) (fun v _ h => ⟨0, (e41_0 _ v).trans h⟩) (fun _ => by kernel_rfl) (fun _ => by kernel_rfl) (fun _ _ => by kernel_rfl)
/- chicane/field.counted$1 -/
abbrev A75_0 : Type := Int
abbrev R75_0 : Type := Bool
def v75_0 : Pk G Int := (Pk.fst (pk (Sh.fst (Sh.cons (Sh.int .i64) Sh.nil)) Sh.hnil))
def w75_0 : Wk G Bool := (Wk.one [.keep] (Pk.fst (pk (Sh.fst (Sh.cons Sh.bool Sh.nil)) Sh.hnil)))
def F75_0 (v : Int) : Option Bool :=
  bif (decide ((1 : Int) ≤ v)) then
    some (decide (v ≤ (64 : Int)))
  else
    some (false)

noncomputable def k75_0 : List (Known Try.prog E) := []
noncomputable def L75_0 (n id : Nat) (st : St G) : Option Bool := none
set_option maxRecDepth 100000 in
theorem e75_0 (n : Nat) (v : Int) : ev Try.prog E (oracle k75_0) Try.f75.ntmps (fun x => mem x []) (L75_0 n) (finF Try.prog E Try.f75.results.toList [[]] w75_0.alts) 4000 [.code (Try.f75.body.getD .skip)] (argSt (v75_0.enc v)) = F75_0 v := by kernel_rfl
theorem ok75_0 : FnOk Try.prog E 75 v75_0.enc F75_0 w75_0.enc :=
  fn_known (fn := Try.f75) (c := (Try.f75.body.getD .skip)) Try.func75 (by kernel_rfl) rfl envOk (oracle_ok k75_0) mixed v75_0 F75_0 w75_0 [] [[]] (by kernel_rfl) [] 4000 L75_0 (by kernel_rfl)
    (fun _ h => nomatch h) (fun v _ h => ⟨0, (e75_0 _ v).trans h⟩) (fun _ => by kernel_rfl) (fun _ => by kernel_rfl) (fun _ _ => by kernel_rfl)
/- chicane/field.counted -/
abbrev A42_0 : Type := Int × Int × Int × Int × Int × Int × List Int × List Int × (List (Int × Int × Bool)) × (List (Int × Int)) × (List (List (Int × Int))) × (List (Int × Int × Int × Int × Bool)) × Int × Int × Int × Int
abbrev R42_0 : Type := Bool
def v42_0 : Pk G (Int × Int × Int × Int × Int × Int × List Int × List Int × (List (Int × Int × Bool)) × (List (Int × Int)) × (List (List (Int × Int))) × (List (Int × Int × Int × Int × Bool)) × Int × Int × Int × Int) := (Pk.fst (pk (Sh.fst (Sh.cons (Sh.agg (Sh.cons (Sh.int .i64) (Sh.cons (Sh.int .i64) (Sh.cons (Sh.int .i64) (Sh.cons (Sh.int .i64) (Sh.cons (Sh.int .i64) (Sh.cons (Sh.int .i64) (Sh.cons (Sh.ros 22) (Sh.cons (Sh.ros 3) (Sh.cons (Sh.ros 86) (Sh.cons (Sh.ros 24) (Sh.cons (Sh.ros 28) (Sh.cons (Sh.ros 196) (Sh.cons (Sh.int .i64) (Sh.cons (Sh.int .i64) (Sh.cons (Sh.int .u32) (Sh.fst (Sh.cons (Sh.int .i64) Sh.nil)))))))))))))))))) Sh.nil)) Sh.hnil))
def w42_0 : Wk G Bool := (Wk.one [.keep] (Pk.fst (pk (Sh.fst (Sh.cons Sh.bool Sh.nil)) Sh.hnil)))
def F42_0 (v : Int × Int × Int × Int × Int × Int × List Int × List Int × (List (Int × Int × Bool)) × (List (Int × Int)) × (List (List (Int × Int))) × (List (Int × Int × Int × Int × Bool)) × Int × Int × Int × Int) : Option Bool :=
  (F75_0 v.2.2.1).bind fun r15 =>
  bif (!r15) then
    some (false)
  else
    (F75_0 v.2.2.2.1).bind fun r16 =>
    bif (!r16) then
      some (false)
    else
      bif (decide (((v.2.2.2.2.2.2.2.2.1).length : Int) < (1 : Int))) then
        some (false)
      else
        bif (decide (((v.2.2.2.2.2.2.2.2.1).length : Int) > (8 : Int))) then
          some (false)
        else
          let x17 : Int := (IntKind.wrap .i64 (v.2.2.1 + (1 : Int)))
          let x18 : Int := (IntKind.wrap .i64 (v.2.2.2.1 + (1 : Int)))
          let x19 : Int := (IntKind.wrap .i64 (x17 * x18))
          bif (((v.2.2.2.2.2.2.1).length : Int) == x19) then
            let x20 : Int := (IntKind.wrap .i64 (v.2.2.1 * v.2.2.2.1))
            some (((v.2.2.2.2.2.2.2.1).length : Int) == x20)
          else
            some (false)

noncomputable def k42_0 : List (Known Try.prog E) := [Known.of envOk [1] [.keep] v75_0 F75_0 w75_0 ok75_0]
noncomputable def L42_0 (n id : Nat) (st : St G) : Option Bool := none
set_option maxRecDepth 100000 in
theorem e42_0 (n : Nat) (v : Int × Int × Int × Int × Int × Int × List Int × List Int × (List (Int × Int × Bool)) × (List (Int × Int)) × (List (List (Int × Int))) × (List (Int × Int × Int × Int × Bool)) × Int × Int × Int × Int) : ev Try.prog E (oracle k42_0) Try.f42.ntmps (fun x => mem x []) (L42_0 n) (finF Try.prog E Try.f42.results.toList [[]] w42_0.alts) 4000 [.code (Try.f42.body.getD .skip)] (argSt (v42_0.enc v)) = F42_0 v := by kernel_rfl
theorem ok42_0 : FnOk Try.prog E 42 v42_0.enc F42_0 w42_0.enc :=
  fn_known (fn := Try.f42) (c := (Try.f42.body.getD .skip)) Try.func42 (by kernel_rfl) rfl envOk (oracle_ok k42_0) mixed v42_0 F42_0 w42_0 [] [[]] (by kernel_rfl) [] 4000 L42_0 (by kernel_rfl)
    (fun _ h => nomatch h) (fun v _ h => ⟨0, (e42_0 _ v).trans h⟩) (fun _ => by kernel_rfl) (fun _ => by kernel_rfl) (fun _ _ => by kernel_rfl)
/- slices.Clone[[]chicane/api.Fx,chicane/api.Fx] -/
abbrev A43_n : Type := Unit
abbrev R43_n : Type := List Int
def v43_n : Pk G Unit := (Pk.snd (pk (Sh.snd (Sh.cons Sh.nilsl Sh.nil)) Sh.hnil))
def w43_n : Wk G (List Int) := (Wk.one [(.own 0 22)] (Pk.snd (pk (Sh.snd (Sh.cons (Sh.osl 0) Sh.nil)) (Sh.fst (Sh.hrow 0 22 Sh.hnil)))))
def F43_n (v : Unit) : Option (List Int) :=
  some ([] : List Int)

noncomputable def k43_n : List (Known Try.prog E) := []
noncomputable def L43_n (n id : Nat) (st : St G) : Option (List Int) := none
set_option maxRecDepth 100000 in
theorem e43_n (n : Nat) (v : Unit) : ev Try.prog E (oracle k43_n) Try.f43.ntmps (fun x => mem x []) (L43_n n) (finF Try.prog E Try.f43.results.toList [[]] w43_n.alts) 4000 [.code (Try.f43.body.getD .skip)] (argSt (v43_n.enc v)) = F43_n v := by kernel_rfl
theorem ok43_n : FnOk Try.prog E 43 v43_n.enc F43_n w43_n.enc :=
  fn_known (fn := Try.f43) (c := (Try.f43.body.getD .skip)) Try.func43 (by kernel_rfl) rfl envOk (oracle_ok k43_n) mixed v43_n F43_n w43_n [] [[]] (by kernel_rfl) [] 4000 L43_n (by kernel_rfl)
    (fun _ h => nomatch h) (fun v _ h => ⟨0, (e43_n _ v).trans h⟩) (fun _ => by kernel_rfl) (fun _ => by kernel_rfl) (fun _ _ => by kernel_rfl)
/- slices.Clone[[]chicane/api.Fx,chicane/api.Fx] -/
abbrev A43_r : Type := List Int
abbrev R43_r : Type := List Int
def v43_r : Pk G (List Int) := (Pk.fst (pk (Sh.fst (Sh.cons (Sh.rosn 22) Sh.nil)) Sh.hnil))
def w43_r : Wk G (List Int) := (Wk.one [(.own 0 22)] (Pk.snd (pk (Sh.snd (Sh.cons (Sh.osl 0) Sh.nil)) (Sh.fst (Sh.hrow 0 22 Sh.hnil)))))
def F43_r (v : List Int) : Option (List Int) :=
  (chk (decide (((([] : List Int)).length + (v).length) * 8 ≤ 140737488355328))).bind fun _ =>
  let x24 : List Int := (([] : List Int) ++ v)
  some (x24)

noncomputable def k43_r : List (Known Try.prog E) := []
noncomputable def L43_r (n id : Nat) (st : St G) : Option (List Int) := none
set_option maxRecDepth 100000 in
theorem e43_r (n : Nat) (v : List Int) : ev Try.prog E (oracle k43_r) Try.f43.ntmps (fun x => mem x []) (L43_r n) (finF Try.prog E Try.f43.results.toList [[]] w43_r.alts) 4000 [.code (Try.f43.body.getD .skip)] (argSt (v43_r.enc v)) = F43_r v := by kernel_rfl
theorem ok43_r : FnOk Try.prog E 43 v43_r.enc F43_r w43_r.enc :=
  fn_known (fn := Try.f43) (c := (Try.f43.body.getD .skip)) Try.func43 (by kernel_rfl) rfl envOk (oracle_ok k43_r) mixed v43_r F43_r w43_r [] [[]] (by kernel_rfl) [] 4000 L43_r (by kernel_rfl)
    (fun _ h => nomatch h) (fun v _ h => ⟨0, (e43_r _ v).trans h⟩) (fun _ => by kernel_rfl) (fun _ => by kernel_rfl) (fun _ _ => by kernel_rfl)
/- slices.Clone[[]chicane/api.Fx,chicane/api.Fx] -/
abbrev A43_0 : Type := List Int
abbrev R43_0 : Type := List Int
def v43_0 : Pk G (List Int) := (Pk.fst (pk (Sh.fst (Sh.cons (Sh.ros 22) Sh.nil)) Sh.hnil))
def w43_0 : Wk G (List Int) := (Wk.one [(.own 0 22)] (Pk.snd (pk (Sh.snd (Sh.cons (Sh.osl 0) Sh.nil)) (Sh.fst (Sh.hrow 0 22 Sh.hnil)))))
def F43_0 (v : List Int) : Option (List Int) := F43_r v
theorem on43_0 : FnOk Try.prog E 43 (fun _ : Unit => ([AV.nilsl], [])) F43_n w43_0.enc := ok43_n
theorem or43_0 : FnOk Try.prog E 43 (fun xs : List (G 22) => ([AV.rosn 22 xs], [])) F43_r w43_0.enc := ok43_r
theorem ok43_0 : FnOk Try.prog E 43 v43_0.enc F43_0 w43_0.enc := FnOk.split (e := 22) on43_0 or43_0 (fun _ h => (by kernel_rfl : F43_n () = F43_r []).trans h) (fun _ _ h => h)
/- slices.Clone[[]int,int] -/
abbrev A44_n : Type := Unit
abbrev R44_n : Type := List Int
def v44_n : Pk G Unit := (Pk.snd (pk (Sh.snd (Sh.cons Sh.nilsl Sh.nil)) Sh.hnil))
def w44_n : Wk G (List Int) := (Wk.one [(.own 0 3)] (Pk.snd (pk (Sh.snd (Sh.cons (Sh.osl 0) Sh.nil)) (Sh.fst (Sh.hrow 0 3 Sh.hnil)))))
def F44_n (v : Unit) : Option (List Int) :=
  some ([] : List Int)

noncomputable def k44_n : List (Known Try.prog E) := []
noncomputable def L44_n (n id : Nat) (st : St G) : Option (List Int) := none
set_option maxRecDepth 100000 in
theorem e44_n (n : Nat) (v : Unit) : ev Try.prog E (oracle k44_n) Try.f44.ntmps (fun x => mem x []) (L44_n n) (finF Try.prog E Try.f44.results.toList [[]] w44_n.alts) 4000 [.code (Try.f44.body.getD .skip)] (argSt (v44_n.enc v)) = F44_n v := by kernel_rfl
theorem ok44_n : FnOk Try.prog E 44 v44_n.enc F44_n w44_n.enc :=
  fn_known (fn := Try.f44) (c := (Try.f44.body.getD .skip)) Try.func44 (by kernel_rfl) rfl envOk (oracle_ok k44_n) mixed v44_n F44_n w44_n [] [[]] (by kernel_rfl) [] 4000 L44_n (by kernel_rfl)
    (fun _ h => nomatch h) (fun v _ h => ⟨0, (e44_n _ v).trans h⟩) (fun _ => by kernel_rfl) (fun _ => by kernel_rfl) (fun _ _ => by kernel_rfl)
/- slices.Clone[[]int,int] -/
abbrev A44_r : Type := List Int
abbrev R44_r : Type := List Int
def v44_r : Pk G (List Int) := (Pk.fst (pk (Sh.fst (Sh.cons (Sh.rosn 3) Sh.nil)) Sh.hnil))
def w44_r : Wk G (List Int) := (Wk.one [(.own 0 3)] (Pk.snd (pk (Sh.snd (Sh.cons (Sh.osl 0) Sh.nil)) (Sh.fst (Sh.hrow 0 3 Sh.hnil)))))
def F44_r (v : List Int) : Option (List Int) :=
  (chk (decide (((([] : List Int)).length + (v).length) * 8 ≤ 140737488355328))).bind fun _ =>
  let x28 : List Int := (([] : List Int) ++ v)
  some (x28)

noncomputable def k44_r : List (Known Try.prog E) := []
noncomputable def L44_r (n id : Nat) (st : St G) : Option (List Int) := none
set_option maxRecDepth 100000 in
theorem e44_r (n : Nat) (v : List Int) : ev Try.prog E (oracle k44_r) Try.f44.ntmps (fun x => mem x []) (L44_r n) (finF Try.prog E Try.f44.results.toList [[]] w44_r.alts) 4000 [.code (Try.f44.body.getD .skip)] (argSt (v44_r.enc v)) = F44_r v := by kernel_rfl
theorem ok44_r : FnOk Try.prog E 44 v44_r.enc F44_r w44_r.enc :=
  fn_known (fn := Try.f44) (c := (Try.f44.body.getD .skip)) Try.func44 (by kernel_rfl) rfl envOk (oracle_ok k44_r) mixed v44_r F44_r w44_r [] [[]] (by kernel_rfl) [] 4000 L44_r (by kernel_rfl)
    (fun _ h => nomatch h) (fun v _ h => ⟨0, (e44_r _ v).trans h⟩) (fun _ => by kernel_rfl) (fun _ => by kernel_rfl) (fun _ _ => by kernel_rfl)
/- slices.Clone[[]int,int] -/
abbrev A44_0 : Type := List Int
abbrev R44_0 : Type := List Int
def v44_0 : Pk G (List Int) := (Pk.fst (pk (Sh.fst (Sh.cons (Sh.ros 3) Sh.nil)) Sh.hnil))
def w44_0 : Wk G (List Int) := (Wk.one [(.own 0 3)] (Pk.snd (pk (Sh.snd (Sh.cons (Sh.osl 0) Sh.nil)) (Sh.fst (Sh.hrow 0 3 Sh.hnil)))))
def F44_0 (v : List Int) : Option (List Int) := F44_r v
theorem on44_0 : FnOk Try.prog E 44 (fun _ : Unit => ([AV.nilsl], [])) F44_n w44_0.enc := ok44_n
theorem or44_0 : FnOk Try.prog E 44 (fun xs : List (G 3) => ([AV.rosn 3 xs], [])) F44_r w44_0.enc := ok44_r
theorem ok44_0 : FnOk Try.prog E 44 v44_0.enc F44_0 w44_0.enc := FnOk.split (e := 3) on44_0 or44_0 (fun _ h => (by kernel_rfl : F44_n () = F44_r []).trans h) (fun _ _ h => h)
/- chicane/field.size$1 -/
abbrev A77_0 : Type := Int × Int
abbrev R77_0 : Type := Bool × Int
def v77_0 : Pk G (Int × Int) := (pk (Sh.fst (Sh.cons (Sh.int .i64) (Sh.snd (Sh.cons (Sh.ptr 0 0) Sh.nil)))) (Sh.fst (Sh.hfix 0 22 (Sh.fst (Sh.cons (Sh.int .i64) Sh.nil)) Sh.hnil)))
def w77_0 : Wk G (Bool × Int) := (Wk.one [.keep] (pk (Sh.fst (Sh.cons Sh.bool Sh.nil)) (Sh.fst (Sh.hfix 0 22 (Sh.fst (Sh.cons (Sh.int .i64) Sh.nil)) Sh.hnil))))
def F77_0 (v : Int × Int) : Option (Bool × Int) :=
  bif (decide (v.1 > v.2)) then
    some (true, v.2)
  else
    let x34 : Int := (IntKind.wrap .i64 (0 - v.2))
    some ((decide (v.1 < x34)), v.2)

noncomputable def k77_0 : List (Known Try.prog E) := []
noncomputable def L77_0 (n id : Nat) (st : St G) : Option (Bool × Int) := none
set_option maxRecDepth 100000 in
theorem e77_0 (n : Nat) (v : Int × Int) : ev Try.prog E (oracle k77_0) Try.f77.ntmps (fun x => mem x []) (L77_0 n) (finF Try.prog E Try.f77.results.toList [[(.ptr 0 0 22 [.keep])]] w77_0.alts) 4000 [.code (Try.f77.body.getD .skip)] (argSt (v77_0.enc v)) = F77_0 v := by kernel_rfl
theorem ok77_0 : FnOk Try.prog E 77 v77_0.enc F77_0 w77_0.enc :=
  fn_known (fn := Try.f77) (c := (Try.f77.body.getD .skip)) Try.func77 (by kernel_rfl) rfl envOk (oracle_ok k77_0) mixed v77_0 F77_0 w77_0 [(.ptr 0 0 22 [.keep])] [[(.ptr 0 0 22 [.keep])]] (by kernel_rfl) [] 4000 L77_0 (by kernel_rfl)
    (fun _ h => nomatch h) (fun v _ h => ⟨0, (e77_0 _ v).trans h⟩) (fun _ => by kernel_rfl) (fun _ => by kernel_rfl) (fun _ _ => by kernel_rfl)
/- slices.IndexFunc[[]chicane/api.Fx,chicane/api.Fx] -/
abbrev A98_0 : Type := List Int × Int
abbrev R98_0 : Type := Int × Int
def v98_0 : Pk G (List Int × Int) := (pk (Sh.fst (Sh.cons (Sh.ros 22) (Sh.snd (Sh.cons (Sh.snd (Sh.fn (.func 77) Sh.nil (Sh.snd (Sh.cons (Sh.ptr 0 0) Sh.nil)))) Sh.nil)))) (Sh.fst (Sh.hfix 0 22 (Sh.fst (Sh.cons (Sh.int .i64) Sh.nil)) Sh.hnil)))
def w98_0 : Wk G (Int × Int) := (Wk.one [.keep] (pk (Sh.fst (Sh.cons (Sh.int .i64) Sh.nil)) (Sh.fst (Sh.hfix 0 22 (Sh.fst (Sh.cons (Sh.int .i64) Sh.nil)) Sh.hnil))))
def c98_0_2 : Pk G ((List Int × Int × Int) × Int) := (pk (Sh.cons (Sh.ros 22) (Sh.snd (Sh.cons (Sh.snd (Sh.fn (.func 77) Sh.nil (Sh.snd (Sh.cons (Sh.ptr 0 0) Sh.nil)))) (Sh.cons (Sh.int .i64) (Sh.fst (Sh.cons (Sh.int .i64) Sh.nil)))))) (Sh.fst (Sh.hfix 0 22 (Sh.fst (Sh.cons (Sh.int .i64) Sh.nil)) Sh.hnil)))
def B98_0_2 (K : (((List Int × Int × Int) × Int) → Option (Int × Int))) (v : (List Int × Int × Int) × Int) : Option (Int × Int) :=
  bif (decide (v.1.2.2 < v.1.2.1)) then
    (rdx v.1.1 v.1.2.2).bind fun (x41 : Int) =>
    (F77_0 (x41, v.2)).bind fun r42 =>
    bif r42.1 then
      some (v.1.2.2, r42.2)
    else
      let x43 : Int := (IntKind.wrap .i64 (v.1.2.2 + (1 : Int)))
      K ((v.1.1, (v.1.2.1, x43)), r42.2)
  else
    some ((-1 : Int), v.2)

def E98_0 (K : (((List Int × Int × Int) × Int) → Option (Int × Int))) (v : List Int × Int) : Option (Int × Int) :=
  K ((v.1, (((v.1).length : Int), (0 : Int))), v.2)

def K98_0 : Nat → (((List Int × Int × Int) × Int) → Option (Int × Int))
  | 0 => (fun _ => none)
  | n + 1 => (B98_0_2 (K98_0 n))
def fuel98_0 (v : List Int × Int) : Nat := 1300
def F98_0 (v : List Int × Int) : Option (Int × Int) := E98_0 (K98_0 (fuel98_0 v)) v
noncomputable def k98_0 : List (Known Try.prog E) := [Known.of envOk [1, 5] [.keep, (.ptr 0 0 22 [.keep])] v77_0 F77_0 w77_0 ok77_0]
def s98_0_2 : List (Nat × Pat) := [(0, (.ros 22)), (1, (.fn (.func 77) [] [(.ptr 0 0 22 [])])), (7, .keep), (8, .keep)]
noncomputable def L98_0 (n id : Nat) (st : St G) : Option (Int × Int) := match Nat.beq id 2 with | true => cutK Try.prog s98_0_2 [(.ptr 0 0 22 [.keep])] c98_0_2.dec (K98_0 n) st | false => none
set_option maxRecDepth 100000 in
theorem e98_0 (n : Nat) (v : List Int × Int) : ev Try.prog E (oracle k98_0) Try.f98.ntmps (fun x => mem x [2]) (L98_0 n) (finF Try.prog E Try.f98.results.toList [[(.ptr 0 0 22 [.keep])]] w98_0.alts) 4000 [.code (Try.f98.body.getD .skip)] (argSt (v98_0.enc v)) = E98_0 (K98_0 n) v := by kernel_rfl
set_option maxRecDepth 100000 in
theorem b98_0_2 (n : Nat) (v : (List Int × Int × Int) × Int) : evCut Try.prog E (oracle k98_0) false 98 Try.f98.ntmps (fun x => mem x [2]) (L98_0 n) (finF Try.prog E Try.f98.results.toList [[(.ptr 0 0 22 [.keep])]] w98_0.alts) 4000 (todoAt (Try.f98.body.getD .skip) 2) (cutSt s98_0_2 (c98_0_2.enc v)) = B98_0_2 (K98_0 n) v := by kernel_rfl
theorem ok98_0 : FnOk Try.prog E 98 v98_0.enc F98_0 w98_0.enc :=
  fn_known (fn := Try.f98) (c := (Try.f98.body.getD .skip)) Try.func98 (by kernel_rfl) rfl envOk (oracle_ok k98_0) mixed v98_0 F98_0 w98_0 [(.ptr 0 0 22 [.keep])] [[(.ptr 0 0 22 [.keep])]] (by kernel_rfl) [2] 4000 L98_0 (by kernel_rfl)
    (List.forall_mem_cons.2 ⟨⟨_, [(.ptr 0 0 22 [.keep])], s98_0_2, c98_0_2.dec, c98_0_2.enc, fun n => (K98_0 n), c98_0_2.ok, fun _ _ => rfl, fun _ => rfl, by kernel_rfl, fun n v _ h => (b98_0_2 n v).trans h⟩, fun _ h => (nomatch h)⟩) (fun v _ h => ⟨fuel98_0 v, (e98_0 _ v).trans h⟩) (fun _ => by kernel_rfl) (fun _ => by kernel_rfl) (fun _ _ => by kernel_rfl)
/- slices.ContainsFunc[[]chicane/api.Fx,chicane/api.Fx] -/
abbrev A76_0 : Type := List Int × Int
abbrev R76_0 : Type := Bool × Int
def v76_0 : Pk G (List Int × Int) := (pk (Sh.fst (Sh.cons (Sh.ros 22) (Sh.snd (Sh.cons (Sh.snd (Sh.fn (.func 77) Sh.nil (Sh.snd (Sh.cons (Sh.ptr 0 0) Sh.nil)))) Sh.nil)))) (Sh.fst (Sh.hfix 0 22 (Sh.fst (Sh.cons (Sh.int .i64) Sh.nil)) Sh.hnil)))
def w76_0 : Wk G (Bool × Int) := (Wk.one [.keep] (pk (Sh.fst (Sh.cons Sh.bool Sh.nil)) (Sh.fst (Sh.hfix 0 22 (Sh.fst (Sh.cons (Sh.int .i64) Sh.nil)) Sh.hnil))))
def F76_0 (v : List Int × Int) : Option (Bool × Int) :=
  (F98_0 v).bind fun r46 =>
  some ((decide (r46.1 ≥ (0 : Int))), r46.2)

noncomputable def k76_0 : List (Known Try.prog E) := [Known.of envOk [7, 177] [(.ros 22), (.fn (.func 77) [] [(.ptr 0 0 22 [.keep])])] v98_0 F98_0 w98_0 ok98_0]
noncomputable def L76_0 (n id : Nat) (st : St G) : Option (Bool × Int) := none
set_option maxRecDepth 100000 in
theorem e76_0 (n : Nat) (v : List Int × Int) : ev Try.prog E (oracle k76_0) Try.f76.ntmps (fun x => mem x []) (L76_0 n) (finF Try.prog E Try.f76.results.toList [[(.ptr 0 0 22 [.keep])]] w76_0.alts) 4000 [.code (Try.f76.body.getD .skip)] (argSt (v76_0.enc v)) = F76_0 v := by kernel_rfl
theorem ok76_0 : FnOk Try.prog E 76 v76_0.enc F76_0 w76_0.enc :=
  fn_known (fn := Try.f76) (c := (Try.f76.body.getD .skip)) Try.func76 (by kernel_rfl) rfl envOk (oracle_ok k76_0) mixed v76_0 F76_0 w76_0 [(.ptr 0 0 22 [.keep])] [[(.ptr 0 0 22 [.keep])]] (by kernel_rfl) [] 4000 L76_0 (by kernel_rfl)
    (fun _ h => nomatch h) (fun v _ h => ⟨0, (e76_0 _ v).trans h⟩) (fun _ => by kernel_rfl) (fun _ => by kernel_rfl) (fun _ _ => by kernel_rfl)
/- chicane/field.size -/
abbrev A47_0 : Type := Int × List Int
abbrev R47_0 : Type := Bool
def v47_0 : Pk G (Int × List Int) := (Pk.fst (pk (Sh.cons (Sh.int .i64) (Sh.fst (Sh.cons (Sh.ros 22) Sh.nil))) Sh.hnil))
def w47_0 : Wk G Bool := (Wk.one [.keep] (Pk.fst (pk (Sh.fst (Sh.cons Sh.bool Sh.nil)) Sh.hnil)))
def F47_0 (v : Int × List Int) : Option Bool :=
  (F76_0 (v.2, v.1)).bind fun r49 =>
  some (!r49.1)

noncomputable def k47_0 : List (Known Try.prog E) := [Known.of envOk [7, 177] [(.ros 22), (.fn (.func 77) [] [(.ptr 0 0 22 [.keep])])] v76_0 F76_0 w76_0 ok76_0]
noncomputable def L47_0 (n id : Nat) (st : St G) : Option Bool := none
set_option maxRecDepth 100000 in
theorem e47_0 (n : Nat) (v : Int × List Int) : ev Try.prog E (oracle k47_0) Try.f47.ntmps (fun x => mem x []) (L47_0 n) (finF Try.prog E Try.f47.results.toList [[]] w47_0.alts) 4000 [.code (Try.f47.body.getD .skip)] (argSt (v47_0.enc v)) = F47_0 v := by kernel_rfl
theorem ok47_0 : FnOk Try.prog E 47 v47_0.enc F47_0 w47_0.enc :=
  fn_known (fn := Try.f47) (c := (Try.f47.body.getD .skip)) Try.func47 (by kernel_rfl) rfl envOk (oracle_ok k47_0) mixed v47_0 F47_0 w47_0 [] [[]] (by kernel_rfl) [] 4000 L47_0 (by kernel_rfl)
    (fun _ h => nomatch h) (fun v _ h => ⟨0, (e47_0 _ v).trans h⟩) (fun _ => by kernel_rfl) (fun _ => by kernel_rfl) (fun _ _ => by kernel_rfl)
/- (*chicane/field.Field).gentle -/
abbrev A48_0 : Type := (Int × Int × Int × Int × Int) × List Int × List Int
abbrev R48_0 : Type := Bool × (Int × Int × Int × Int × Int) × List Int × List Int
def v48_0 : Pk G ((Int × Int × Int × Int × Int) × List Int × List Int) := (Pk.snd (pk (Sh.snd (Sh.cons (Sh.ptr 0 0) Sh.nil)) (Sh.hfix 0 91 (Sh.cons (Sh.int .i64) (Sh.cons (Sh.int .i64) (Sh.cons (Sh.int .i64) (Sh.cons (Sh.int .i64) (Sh.fst (Sh.cons (Sh.int .i64) (Sh.snd (Sh.cons (Sh.osl 1) (Sh.snd (Sh.cons (Sh.osl 2) Sh.nil)))))))))) (Sh.hrow 2 3 (Sh.fst (Sh.hrow 1 22 Sh.hnil))))))
def w48_0 : Wk G (Bool × (Int × Int × Int × Int × Int) × List Int × List Int) := (Wk.one [.keep] (pk (Sh.fst (Sh.cons Sh.bool Sh.nil)) (Sh.hfix 0 91 (Sh.cons (Sh.int .i64) (Sh.cons (Sh.int .i64) (Sh.cons (Sh.int .i64) (Sh.cons (Sh.int .i64) (Sh.fst (Sh.cons (Sh.int .i64) (Sh.snd (Sh.cons (Sh.osl 1) (Sh.snd (Sh.cons (Sh.osl 2) Sh.nil)))))))))) (Sh.hrow 1 22 (Sh.fst (Sh.hrow 2 3 Sh.hnil))))))
def c48_0_3 : Pk G ((Int × Int × Int) × (Int × Int × Int × Int × Int) × List Int × List Int) := (pk (Sh.snd (Sh.cons (Sh.ptr 0 0) (Sh.cons (Sh.int .i64) (Sh.snd (Sh.cons (Sh.osl 1) (Sh.cons (Sh.int .i64) (Sh.fst (Sh.cons (Sh.int .i64) Sh.nil)))))))) (Sh.hfix 0 91 (Sh.cons (Sh.int .i64) (Sh.cons (Sh.int .i64) (Sh.cons (Sh.int .i64) (Sh.cons (Sh.int .i64) (Sh.fst (Sh.cons (Sh.int .i64) (Sh.snd (Sh.cons (Sh.osl 1) (Sh.snd (Sh.cons (Sh.osl 2) Sh.nil)))))))))) (Sh.hrow 1 22 (Sh.fst (Sh.hrow 2 3 Sh.hnil)))))
def B48_0_3 (K : (((Int × Int × Int) × (Int × Int × Int × Int × Int) × List Int × List Int) → Option (Bool × (Int × Int × Int × Int × Int) × List Int × List Int))) (v : (Int × Int × Int) × (Int × Int × Int × Int × Int) × List Int × List Int) : Option (Bool × (Int × Int × Int × Int × Int) × List Int × List Int) :=
  bif (decide (v.1.2.2 < v.1.2.1)) then
    (idx v.1.2.2 (v.2.2.1).length).bind fun (x107 : Nat) =>
    ((v.2.2.1)[x107]?).bind fun (x108 : Int) =>
    let x109 : Int := (IntKind.wrap .i64 (v.1.2.2 + (1 : Int)))
    (chk (v.1.1 != 0)).bind fun _ =>
    let x110 : Int := (Int.tmod x109 v.1.1)
    bif (x110 != (0 : Int)) then
      let x111 : Int := (IntKind.wrap .i64 (v.1.2.2 + (1 : Int)))
      (idx x111 (v.2.2.1).length).bind fun (x112 : Nat) =>
      ((v.2.2.1)[x112]?).bind fun (x113 : Int) =>
      let x114 : Int := (IntKind.wrap .i64 (x113 - x108))
      (F47_0 (v.2.1.1, ([x114] : List Int))).bind fun r115 =>
      bif (!r115) then
        some (false, v.2)
      else
        let x116 : Int := (IntKind.wrap .i64 (v.1.2.2 + v.1.1))
        bif (decide (x116 < ((v.2.2.1).length : Int))) then
          let x117 : Int := (IntKind.wrap .i64 (v.1.2.2 + v.1.1))
          (idx x117 (v.2.2.1).length).bind fun (x118 : Nat) =>
          ((v.2.2.1)[x118]?).bind fun (x119 : Int) =>
          let x120 : Int := (IntKind.wrap .i64 (x119 - x108))
          (F47_0 (v.2.1.1, ([x120] : List Int))).bind fun r121 =>
          bif (!r121) then
            some (false, v.2)
          else
            let x122 : Int := (IntKind.wrap .i64 (v.1.2.2 + (1 : Int)))
            K ((v.1.1, (v.1.2.1, x122)), v.2)
        else
          let x123 : Int := (IntKind.wrap .i64 (v.1.2.2 + (1 : Int)))
          K ((v.1.1, (v.1.2.1, x123)), v.2)
    else
      let x124 : Int := (IntKind.wrap .i64 (v.1.2.2 + v.1.1))
      bif (decide (x124 < ((v.2.2.1).length : Int))) then
        let x125 : Int := (IntKind.wrap .i64 (v.1.2.2 + v.1.1))
        (idx x125 (v.2.2.1).length).bind fun (x126 : Nat) =>
        ((v.2.2.1)[x126]?).bind fun (x127 : Int) =>
        let x128 : Int := (IntKind.wrap .i64 (x127 - x108))
        (F47_0 (v.2.1.1, ([x128] : List Int))).bind fun r129 =>
        bif (!r129) then
          some (false, v.2)
        else
          let x130 : Int := (IntKind.wrap .i64 (v.1.2.2 + (1 : Int)))
          K ((v.1.1, (v.1.2.1, x130)), v.2)
      else
        let x131 : Int := (IntKind.wrap .i64 (v.1.2.2 + (1 : Int)))
        K ((v.1.1, (v.1.2.1, x131)), v.2)
  else
    some (true, v.2)

def E48_0 (K : (((Int × Int × Int) × (Int × Int × Int × Int × Int) × List Int × List Int) → Option (Bool × (Int × Int × Int × Int × Int) × List Int × List Int))) (v : (Int × Int × Int × Int × Int) × List Int × List Int) : Option (Bool × (Int × Int × Int × Int × Int) × List Int × List Int) :=
  let x106 : Int := (IntKind.wrap .i64 (v.1.2.1 + (1 : Int)))
  K ((x106, (((v.2.2).length : Int), (0 : Int))), (v.1, (v.2.2, v.2.1)))

def K48_0 : Nat → (((Int × Int × Int) × (Int × Int × Int × Int × Int) × List Int × List Int) → Option (Bool × (Int × Int × Int × Int × Int) × List Int × List Int))
  | 0 => (fun _ => none)
  | n + 1 => (B48_0_3 (K48_0 n))
def fuel48_0 (v : (Int × Int × Int × Int × Int) × List Int × List Int) : Nat := 1300
def F48_0 (v : (Int × Int × Int × Int × Int) × List Int × List Int) : Option (Bool × (Int × Int × Int × Int × Int) × List Int × List Int) := E48_0 (K48_0 (fuel48_0 v)) v
noncomputable def k48_0 : List (Known Try.prog E) := [Known.of envOk [1, 7] [.keep, (.ros 22)] v47_0 F47_0 w47_0 ok47_0]
def s48_0_3 : List (Nat × Pat) := [(0, (.ptr 0 0 91 [])), (3, .keep), (14, (.own 1 22)), (15, .keep), (16, .keep)]
noncomputable def L48_0 (n id : Nat) (st : St G) : Option (Bool × (Int × Int × Int × Int × Int) × List Int × List Int) := match Nat.beq id 3 with | true => cutK Try.prog s48_0_3 [(.own 2 3), (.own 1 22), (.ptr 0 0 91 [.keep, .keep, .keep, .keep, .keep, (.own 1 22), (.own 2 3)])] c48_0_3.dec (K48_0 n) st | false => none
set_option maxRecDepth 100000 in
theorem e48_0 (n : Nat) (v : (Int × Int × Int × Int × Int) × List Int × List Int) : ev Try.prog E (oracle k48_0) Try.f48.ntmps (fun x => mem x [3]) (L48_0 n) (finF Try.prog E Try.f48.results.toList [[(.own 2 3), (.own 1 22), (.ptr 0 0 91 [.keep, .keep, .keep, .keep, .keep, (.own 1 22), (.own 2 3)])]] w48_0.alts) 4000 [.code (Try.f48.body.getD .skip)] (argSt (v48_0.enc v)) = E48_0 (K48_0 n) v := by kernel_rfl
set_option maxRecDepth 100000 in
theorem b48_0_3 (n : Nat) (v : (Int × Int × Int) × (Int × Int × Int × Int × Int) × List Int × List Int) : evCut Try.prog E (oracle k48_0) false 48 Try.f48.ntmps (fun x => mem x [3]) (L48_0 n) (finF Try.prog E Try.f48.results.toList [[(.own 2 3), (.own 1 22), (.ptr 0 0 91 [.keep, .keep, .keep, .keep, .keep, (.own 1 22), (.own 2 3)])]] w48_0.alts) 4000 (todoAt (Try.f48.body.getD .skip) 3) (cutSt s48_0_3 (c48_0_3.enc v)) = B48_0_3 (K48_0 n) v := by kernel_rfl
theorem ok48_0 : FnOk Try.prog E 48 v48_0.enc F48_0 w48_0.enc :=
  fn_known (fn := Try.f48) (c := (Try.f48.body.getD .skip)) Try.func48 (by kernel_rfl) rfl envOk (oracle_ok k48_0) mixed v48_0 F48_0 w48_0 [(.own 2 3), (.own 1 22), (.ptr 0 0 91 [.keep, .keep, .keep, .keep, .keep, (.own 1 22), (.own 2 3)])] [[(.own 2 3), (.own 1 22), (.ptr 0 0 91 [.keep, .keep, .keep, .keep, .keep, (.own 1 22), (.own 2 3)])]] (by kernel_rfl) [3] 4000 L48_0 (by kernel_rfl)
    (List.forall_mem_cons.2 ⟨⟨_, [(.own 2 3), (.own 1 22), (.ptr 0 0 91 [.keep, .keep, .keep, .keep, .keep, (.own 1 22), (.own 2 3)])], s48_0_3, c48_0_3.dec, c48_0_3.enc, fun n => (K48_0 n), c48_0_3.ok, fun _ _ => rfl, fun _ => rfl, by kernel_rfl, fun n v _ h => (b48_0_3 n v).trans h⟩, fun _ h => (nomatch h)⟩) (fun v _ h => ⟨fuel48_0 v, (e48_0 _ v).trans h⟩) (fun _ => by kernel_rfl) (fun _ => by kernel_rfl) (fun _ _ => by kernel_rfl)
/- chicane/field.New$1 -/
abbrev A45_0 : Type := Int × Int × Int × Int × Int × Int × Int × List Int × List Int × (List (Int × Int × Bool)) × (List (Int × Int)) × (List (List (Int × Int))) × (List (Int × Int × Int × Int × Bool)) × Int × Int × Int × Int
abbrev R45_0 : Type := Bool × Int × Int × Int × Int × Int × Int × List Int × List Int × (List (Int × Int × Bool)) × (List (Int × Int)) × (List (List (Int × Int))) × (List (Int × Int × Int × Int × Bool)) × Int × Int × Int × Int
def v45_0 : Pk G (Int × Int × Int × Int × Int × Int × Int × List Int × List Int × (List (Int × Int × Bool)) × (List (Int × Int)) × (List (List (Int × Int))) × (List (Int × Int × Int × Int × Bool)) × Int × Int × Int × Int) := (pk (Sh.fst (Sh.cons (Sh.int .i64) (Sh.snd (Sh.cons (Sh.ptr 0 0) Sh.nil)))) (Sh.fst (Sh.hfix 0 34 (Sh.cons (Sh.int .i64) (Sh.cons (Sh.int .i64) (Sh.cons (Sh.int .i64) (Sh.cons (Sh.int .i64) (Sh.cons (Sh.int .i64) (Sh.cons (Sh.int .i64) (Sh.cons (Sh.ros 22) (Sh.cons (Sh.ros 3) (Sh.cons (Sh.ros 86) (Sh.cons (Sh.ros 24) (Sh.cons (Sh.ros 28) (Sh.cons (Sh.ros 196) (Sh.cons (Sh.int .i64) (Sh.cons (Sh.int .i64) (Sh.cons (Sh.int .u32) (Sh.fst (Sh.cons (Sh.int .i64) Sh.nil))))))))))))))))) Sh.hnil)))
def w45_0 : Wk G (Bool × Int × Int × Int × Int × Int × Int × List Int × List Int × (List (Int × Int × Bool)) × (List (Int × Int)) × (List (List (Int × Int))) × (List (Int × Int × Int × Int × Bool)) × Int × Int × Int × Int) := (Wk.one [.keep] (pk (Sh.fst (Sh.cons Sh.bool Sh.nil)) (Sh.fst (Sh.hfix 0 34 (Sh.cons (Sh.int .i64) (Sh.cons (Sh.int .i64) (Sh.cons (Sh.int .i64) (Sh.cons (Sh.int .i64) (Sh.cons (Sh.int .i64) (Sh.cons (Sh.int .i64) (Sh.cons (Sh.ros 22) (Sh.cons (Sh.ros 3) (Sh.cons (Sh.ros 86) (Sh.cons (Sh.ros 24) (Sh.cons (Sh.ros 28) (Sh.cons (Sh.ros 196) (Sh.cons (Sh.int .i64) (Sh.cons (Sh.int .i64) (Sh.cons (Sh.int .u32) (Sh.fst (Sh.cons (Sh.int .i64) Sh.nil))))))))))))))))) Sh.hnil))))
def F45_0 (v : Int × Int × Int × Int × Int × Int × Int × List Int × List Int × (List (Int × Int × Bool)) × (List (Int × Int)) × (List (List (Int × Int))) × (List (Int × Int × Int × Int × Bool)) × Int × Int × Int × Int) : Option (Bool × Int × Int × Int × Int × Int × Int × List Int × List Int × (List (Int × Int × Bool)) × (List (Int × Int)) × (List (List (Int × Int))) × (List (Int × Int × Int × Int × Bool)) × Int × Int × Int × Int) :=
  bif (decide (v.1 < (0 : Int))) then
    some (true, v.2)
  else
    some ((decide (v.1 ≥ ((v.2.2.2.2.2.2.2.2.2.1).length : Int))), v.2)

noncomputable def k45_0 : List (Known Try.prog E) := []
noncomputable def L45_0 (n id : Nat) (st : St G) : Option (Bool × Int × Int × Int × Int × Int × Int × List Int × List Int × (List (Int × Int × Bool)) × (List (Int × Int)) × (List (List (Int × Int))) × (List (Int × Int × Int × Int × Bool)) × Int × Int × Int × Int) := none
set_option maxRecDepth 100000 in
theorem e45_0 (n : Nat) (v : Int × Int × Int × Int × Int × Int × Int × List Int × List Int × (List (Int × Int × Bool)) × (List (Int × Int)) × (List (List (Int × Int))) × (List (Int × Int × Int × Int × Bool)) × Int × Int × Int × Int) : ev Try.prog E (oracle k45_0) Try.f45.ntmps (fun x => mem x []) (L45_0 n) (finF Try.prog E Try.f45.results.toList [[(.ptr 0 0 34 [.keep, .keep, .keep, .keep, .keep, .keep, (.ros 22), (.ros 3), (.ros 86), (.ros 24), (.ros 28), (.ros 196), .keep, .keep, .keep, .keep])]] w45_0.alts) 4000 [.code (Try.f45.body.getD .skip)] (argSt (v45_0.enc v)) = F45_0 v := by kernel_rfl
theorem ok45_0 : FnOk Try.prog E 45 v45_0.enc F45_0 w45_0.enc :=
  fn_known (fn := Try.f45) (c := (Try.f45.body.getD .skip)) Try.func45 (by kernel_rfl) rfl envOk (oracle_ok k45_0) mixed v45_0 F45_0 w45_0 [(.ptr 0 0 34 [.keep, .keep, .keep, .keep, .keep, .keep, (.ros 22), (.ros 3), (.ros 86), (.ros 24), (.ros 28), (.ros 196), .keep, .keep, .keep, .keep])] [[(.ptr 0 0 34 [.keep, .keep, .keep, .keep, .keep, .keep, (.ros 22), (.ros 3), (.ros 86), (.ros 24), (.ros 28), (.ros 196), .keep, .keep, .keep, .keep])]] (by kernel_rfl) [] 4000 L45_0 (by kernel_rfl)
    (fun _ h => nomatch h) (fun v _ h => ⟨0, (e45_0 _ v).trans h⟩) (fun _ => by kernel_rfl) (fun _ => by kernel_rfl) (fun _ _ => by kernel_rfl)
/- slices.IndexFunc[[]int,int] -/
abbrev A78_0 : Type := List Int × Int × Int × Int × Int × Int × Int × List Int × List Int × (List (Int × Int × Bool)) × (List (Int × Int)) × (List (List (Int × Int))) × (List (Int × Int × Int × Int × Bool)) × Int × Int × Int × Int
abbrev R78_0 : Type := Int × Int × Int × Int × Int × Int × Int × List Int × List Int × (List (Int × Int × Bool)) × (List (Int × Int)) × (List (List (Int × Int))) × (List (Int × Int × Int × Int × Bool)) × Int × Int × Int × Int
def v78_0 : Pk G (List Int × Int × Int × Int × Int × Int × Int × List Int × List Int × (List (Int × Int × Bool)) × (List (Int × Int)) × (List (List (Int × Int))) × (List (Int × Int × Int × Int × Bool)) × Int × Int × Int × Int) := (pk (Sh.fst (Sh.cons (Sh.ros 3) (Sh.snd (Sh.cons (Sh.snd (Sh.fn (.func 45) Sh.nil (Sh.snd (Sh.cons (Sh.ptr 0 0) Sh.nil)))) Sh.nil)))) (Sh.fst (Sh.hfix 0 34 (Sh.cons (Sh.int .i64) (Sh.cons (Sh.int .i64) (Sh.cons (Sh.int .i64) (Sh.cons (Sh.int .i64) (Sh.cons (Sh.int .i64) (Sh.cons (Sh.int .i64) (Sh.cons (Sh.ros 22) (Sh.cons (Sh.ros 3) (Sh.cons (Sh.ros 86) (Sh.cons (Sh.ros 24) (Sh.cons (Sh.ros 28) (Sh.cons (Sh.ros 196) (Sh.cons (Sh.int .i64) (Sh.cons (Sh.int .i64) (Sh.cons (Sh.int .u32) (Sh.fst (Sh.cons (Sh.int .i64) Sh.nil))))))))))))))))) Sh.hnil)))
def w78_0 : Wk G (Int × Int × Int × Int × Int × Int × Int × List Int × List Int × (List (Int × Int × Bool)) × (List (Int × Int)) × (List (List (Int × Int))) × (List (Int × Int × Int × Int × Bool)) × Int × Int × Int × Int) := (Wk.one [.keep] (pk (Sh.fst (Sh.cons (Sh.int .i64) Sh.nil)) (Sh.fst (Sh.hfix 0 34 (Sh.cons (Sh.int .i64) (Sh.cons (Sh.int .i64) (Sh.cons (Sh.int .i64) (Sh.cons (Sh.int .i64) (Sh.cons (Sh.int .i64) (Sh.cons (Sh.int .i64) (Sh.cons (Sh.ros 22) (Sh.cons (Sh.ros 3) (Sh.cons (Sh.ros 86) (Sh.cons (Sh.ros 24) (Sh.cons (Sh.ros 28) (Sh.cons (Sh.ros 196) (Sh.cons (Sh.int .i64) (Sh.cons (Sh.int .i64) (Sh.cons (Sh.int .u32) (Sh.fst (Sh.cons (Sh.int .i64) Sh.nil))))))))))))))))) Sh.hnil))))
def c78_0_2 : Pk G ((List Int × Int × Int) × Int × Int × Int × Int × Int × Int × List Int × List Int × (List (Int × Int × Bool)) × (List (Int × Int)) × (List (List (Int × Int))) × (List (Int × Int × Int × Int × Bool)) × Int × Int × Int × Int) := (pk (Sh.cons (Sh.ros 3) (Sh.snd (Sh.cons (Sh.snd (Sh.fn (.func 45) Sh.nil (Sh.snd (Sh.cons (Sh.ptr 0 0) Sh.nil)))) (Sh.cons (Sh.int .i64) (Sh.fst (Sh.cons (Sh.int .i64) Sh.nil)))))) (Sh.fst (Sh.hfix 0 34 (Sh.cons (Sh.int .i64) (Sh.cons (Sh.int .i64) (Sh.cons (Sh.int .i64) (Sh.cons (Sh.int .i64) (Sh.cons (Sh.int .i64) (Sh.cons (Sh.int .i64) (Sh.cons (Sh.ros 22) (Sh.cons (Sh.ros 3) (Sh.cons (Sh.ros 86) (Sh.cons (Sh.ros 24) (Sh.cons (Sh.ros 28) (Sh.cons (Sh.ros 196) (Sh.cons (Sh.int .i64) (Sh.cons (Sh.int .i64) (Sh.cons (Sh.int .u32) (Sh.fst (Sh.cons (Sh.int .i64) Sh.nil))))))))))))))))) Sh.hnil)))
def B78_0_2 (K : (((List Int × Int × Int) × Int × Int × Int × Int × Int × Int × List Int × List Int × (List (Int × Int × Bool)) × (List (Int × Int)) × (List (List (Int × Int))) × (List (Int × Int × Int × Int × Bool)) × Int × Int × Int × Int) → Option (Int × Int × Int × Int × Int × Int × Int × List Int × List Int × (List (Int × Int × Bool)) × (List (Int × Int)) × (List (List (Int × Int))) × (List (Int × Int × Int × Int × Bool)) × Int × Int × Int × Int))) (v : (List Int × Int × Int) × Int × Int × Int × Int × Int × Int × List Int × List Int × (List (Int × Int × Bool)) × (List (Int × Int)) × (List (List (Int × Int))) × (List (Int × Int × Int × Int × Bool)) × Int × Int × Int × Int) : Option (Int × Int × Int × Int × Int × Int × Int × List Int × List Int × (List (Int × Int × Bool)) × (List (Int × Int)) × (List (List (Int × Int))) × (List (Int × Int × Int × Int × Bool)) × Int × Int × Int × Int) :=
  bif (decide (v.1.2.2 < v.1.2.1)) then
    (rdx v.1.1 v.1.2.2).bind fun (x141 : Int) =>
    (F45_0 (x141, v.2)).bind fun r142 =>
    bif r142.1 then
      some (v.1.2.2, r142.2)
    else
      let x143 : Int := (IntKind.wrap .i64 (v.1.2.2 + (1 : Int)))
      K ((v.1.1, (v.1.2.1, x143)), r142.2)
  else
    some ((-1 : Int), v.2)

def E78_0 (K : (((List Int × Int × Int) × Int × Int × Int × Int × Int × Int × List Int × List Int × (List (Int × Int × Bool)) × (List (Int × Int)) × (List (List (Int × Int))) × (List (Int × Int × Int × Int × Bool)) × Int × Int × Int × Int) → Option (Int × Int × Int × Int × Int × Int × Int × List Int × List Int × (List (Int × Int × Bool)) × (List (Int × Int)) × (List (List (Int × Int))) × (List (Int × Int × Int × Int × Bool)) × Int × Int × Int × Int))) (v : List Int × Int × Int × Int × Int × Int × Int × List Int × List Int × (List (Int × Int × Bool)) × (List (Int × Int)) × (List (List (Int × Int))) × (List (Int × Int × Int × Int × Bool)) × Int × Int × Int × Int) : Option (Int × Int × Int × Int × Int × Int × Int × List Int × List Int × (List (Int × Int × Bool)) × (List (Int × Int)) × (List (List (Int × Int))) × (List (Int × Int × Int × Int × Bool)) × Int × Int × Int × Int) :=
  K ((v.1, (((v.1).length : Int), (0 : Int))), v.2)

def K78_0 : Nat → (((List Int × Int × Int) × Int × Int × Int × Int × Int × Int × List Int × List Int × (List (Int × Int × Bool)) × (List (Int × Int)) × (List (List (Int × Int))) × (List (Int × Int × Int × Int × Bool)) × Int × Int × Int × Int) → Option (Int × Int × Int × Int × Int × Int × Int × List Int × List Int × (List (Int × Int × Bool)) × (List (Int × Int)) × (List (List (Int × Int))) × (List (Int × Int × Int × Int × Bool)) × Int × Int × Int × Int))
  | 0 => (fun _ => none)
  | n + 1 => (B78_0_2 (K78_0 n))
def fuel78_0 (v : List Int × Int × Int × Int × Int × Int × Int × List Int × List Int × (List (Int × Int × Bool)) × (List (Int × Int)) × (List (List (Int × Int))) × (List (Int × Int × Int × Int × Bool)) × Int × Int × Int × Int) : Nat := 1300
def F78_0 (v : List Int × Int × Int × Int × Int × Int × Int × List Int × List Int × (List (Int × Int × Bool)) × (List (Int × Int)) × (List (List (Int × Int))) × (List (Int × Int × Int × Int × Bool)) × Int × Int × Int × Int) : Option (Int × Int × Int × Int × Int × Int × Int × List Int × List Int × (List (Int × Int × Bool)) × (List (Int × Int)) × (List (List (Int × Int))) × (List (Int × Int × Int × Int × Bool)) × Int × Int × Int × Int) := E78_0 (K78_0 (fuel78_0 v)) v
noncomputable def k78_0 : List (Known Try.prog E) := [Known.of envOk [1, 5] [.keep, (.ptr 0 0 34 [.keep, .keep, .keep, .keep, .keep, .keep, (.ros 22), (.ros 3), (.ros 86), (.ros 24), (.ros 28), (.ros 196), .keep, .keep, .keep, .keep])] v45_0 F45_0 w45_0 ok45_0]
def s78_0_2 : List (Nat × Pat) := [(0, (.ros 3)), (1, (.fn (.func 45) [] [(.ptr 0 0 34 [])])), (7, .keep), (8, .keep)]
noncomputable def L78_0 (n id : Nat) (st : St G) : Option (Int × Int × Int × Int × Int × Int × Int × List Int × List Int × (List (Int × Int × Bool)) × (List (Int × Int)) × (List (List (Int × Int))) × (List (Int × Int × Int × Int × Bool)) × Int × Int × Int × Int) := match Nat.beq id 2 with | true => cutK Try.prog s78_0_2 [(.ptr 0 0 34 [.keep, .keep, .keep, .keep, .keep, .keep, (.ros 22), (.ros 3), (.ros 86), (.ros 24), (.ros 28), (.ros 196), .keep, .keep, .keep, .keep])] c78_0_2.dec (K78_0 n) st | false => none
set_option maxRecDepth 100000 in
theorem e78_0 (n : Nat) (v : List Int × Int × Int × Int × Int × Int × Int × List Int × List Int × (List (Int × Int × Bool)) × (List (Int × Int)) × (List (List (Int × Int))) × (List (Int × Int × Int × Int × Bool)) × Int × Int × Int × Int) : ev Try.prog E (oracle k78_0) Try.f78.ntmps (fun x => mem x [2]) (L78_0 n) (finF Try.prog E Try.f78.results.toList [[(.ptr 0 0 34 [.keep, .keep, .keep, .keep, .keep, .keep, (.ros 22), (.ros 3), (.ros 86), (.ros 24), (.ros 28), (.ros 196), .keep, .keep, .keep, .keep])]] w78_0.alts) 4000 [.code (Try.f78.body.getD .skip)] (argSt (v78_0.enc v)) = E78_0 (K78_0 n) v := by kernel_rfl
set_option maxRecDepth 100000 in
theorem b78_0_2 (n : Nat) (v : (List Int × Int × Int) × Int × Int × Int × Int × Int × Int × List Int × List Int × (List (Int × Int × Bool)) × (List (Int × Int)) × (List (List (Int × Int))) × (List (Int × Int × Int × Int × Bool)) × Int × Int × Int × Int) : evCut Try.prog E (oracle k78_0) false 78 Try.f78.ntmps (fun x => mem x [2]) (L78_0 n) (finF Try.prog E Try.f78.results.toList [[(.ptr 0 0 34 [.keep, .keep, .keep, .keep, .keep, .keep, (.ros 22), (.ros 3), (.ros 86), (.ros 24), (.ros 28), (.ros 196), .keep, .keep, .keep, .keep])]] w78_0.alts) 4000 (todoAt (Try.f78.body.getD .skip) 2) (cutSt s78_0_2 (c78_0_2.enc v)) = B78_0_2 (K78_0 n) v := by kernel_rfl
theorem ok78_0 : FnOk Try.prog E 78 v78_0.enc F78_0 w78_0.enc :=
  fn_known (fn := Try.f78) (c := (Try.f78.body.getD .skip)) Try.func78 (by kernel_rfl) rfl envOk (oracle_ok k78_0) mixed v78_0 F78_0 w78_0 [(.ptr 0 0 34 [.keep, .keep, .keep, .keep, .keep, .keep, (.ros 22), (.ros 3), (.ros 86), (.ros 24), (.ros 28), (.ros 196), .keep, .keep, .keep, .keep])] [[(.ptr 0 0 34 [.keep, .keep, .keep, .keep, .keep, .keep, (.ros 22), (.ros 3), (.ros 86), (.ros 24), (.ros 28), (.ros 196), .keep, .keep, .keep, .keep])]] (by kernel_rfl) [2] 4000 L78_0 (by kernel_rfl)
    (List.forall_mem_cons.2 ⟨⟨_, [(.ptr 0 0 34 [.keep, .keep, .keep, .keep, .keep, .keep, (.ros 22), (.ros 3), (.ros 86), (.ros 24), (.ros 28), (.ros 196), .keep, .keep, .keep, .keep])], s78_0_2, c78_0_2.dec, c78_0_2.enc, fun n => (K78_0 n), c78_0_2.ok, fun _ _ => rfl, fun _ => rfl, by kernel_rfl, fun n v _ h => (b78_0_2 n v).trans h⟩, fun _ h => (nomatch h)⟩) (fun v _ h => ⟨fuel78_0 v, (e78_0 _ v).trans h⟩) (fun _ => by kernel_rfl) (fun _ => by kernel_rfl) (fun _ _ => by kernel_rfl)
/- slices.ContainsFunc[[]int,int] -/
abbrev A49_0 : Type := List Int × Int × Int × Int × Int × Int × Int × List Int × List Int × (List (Int × Int × Bool)) × (List (Int × Int)) × (List (List (Int × Int))) × (List (Int × Int × Int × Int × Bool)) × Int × Int × Int × Int
abbrev R49_0 : Type := Bool × Int × Int × Int × Int × Int × Int × List Int × List Int × (List (Int × Int × Bool)) × (List (Int × Int)) × (List (List (Int × Int))) × (List (Int × Int × Int × Int × Bool)) × Int × Int × Int × Int
def v49_0 : Pk G (List Int × Int × Int × Int × Int × Int × Int × List Int × List Int × (List (Int × Int × Bool)) × (List (Int × Int)) × (List (List (Int × Int))) × (List (Int × Int × Int × Int × Bool)) × Int × Int × Int × Int) := (pk (Sh.fst (Sh.cons (Sh.ros 3) (Sh.snd (Sh.cons (Sh.snd (Sh.fn (.func 45) Sh.nil (Sh.snd (Sh.cons (Sh.ptr 0 0) Sh.nil)))) Sh.nil)))) (Sh.fst (Sh.hfix 0 34 (Sh.cons (Sh.int .i64) (Sh.cons (Sh.int .i64) (Sh.cons (Sh.int .i64) (Sh.cons (Sh.int .i64) (Sh.cons (Sh.int .i64) (Sh.cons (Sh.int .i64) (Sh.cons (Sh.ros 22) (Sh.cons (Sh.ros 3) (Sh.cons (Sh.ros 86) (Sh.cons (Sh.ros 24) (Sh.cons (Sh.ros 28) (Sh.cons (Sh.ros 196) (Sh.cons (Sh.int .i64) (Sh.cons (Sh.int .i64) (Sh.cons (Sh.int .u32) (Sh.fst (Sh.cons (Sh.int .i64) Sh.nil))))))))))))))))) Sh.hnil)))
def w49_0 : Wk G (Bool × Int × Int × Int × Int × Int × Int × List Int × List Int × (List (Int × Int × Bool)) × (List (Int × Int)) × (List (List (Int × Int))) × (List (Int × Int × Int × Int × Bool)) × Int × Int × Int × Int) := (Wk.one [.keep] (pk (Sh.fst (Sh.cons Sh.bool Sh.nil)) (Sh.fst (Sh.hfix 0 34 (Sh.cons (Sh.int .i64) (Sh.cons (Sh.int .i64) (Sh.cons (Sh.int .i64) (Sh.cons (Sh.int .i64) (Sh.cons (Sh.int .i64) (Sh.cons (Sh.int .i64) (Sh.cons (Sh.ros 22) (Sh.cons (Sh.ros 3) (Sh.cons (Sh.ros 86) (Sh.cons (Sh.ros 24) (Sh.cons (Sh.ros 28) (Sh.cons (Sh.ros 196) (Sh.cons (Sh.int .i64) (Sh.cons (Sh.int .i64) (Sh.cons (Sh.int .u32) (Sh.fst (Sh.cons (Sh.int .i64) Sh.nil))))))))))))))))) Sh.hnil))))
def F49_0 (v : List Int × Int × Int × Int × Int × Int × Int × List Int × List Int × (List (Int × Int × Bool)) × (List (Int × Int)) × (List (List (Int × Int))) × (List (Int × Int × Int × Int × Bool)) × Int × Int × Int × Int) : Option (Bool × Int × Int × Int × Int × Int × Int × List Int × List Int × (List (Int × Int × Bool)) × (List (Int × Int)) × (List (List (Int × Int))) × (List (Int × Int × Int × Int × Bool)) × Int × Int × Int × Int) :=
  (F78_0 v).bind fun r146 =>
  some ((decide (r146.1 ≥ (0 : Int))), r146.2)

noncomputable def k49_0 : List (Known Try.prog E) := [Known.of envOk [7, 145] [(.ros 3), (.fn (.func 45) [] [(.ptr 0 0 34 [.keep, .keep, .keep, .keep, .keep, .keep, (.ros 22), (.ros 3), (.ros 86), (.ros 24), (.ros 28), (.ros 196), .keep, .keep, .keep, .keep])])] v78_0 F78_0 w78_0 ok78_0]
noncomputable def L49_0 (n id : Nat) (st : St G) : Option (Bool × Int × Int × Int × Int × Int × Int × List Int × List Int × (List (Int × Int × Bool)) × (List (Int × Int)) × (List (List (Int × Int))) × (List (Int × Int × Int × Int × Bool)) × Int × Int × Int × Int) := none
set_option maxRecDepth 100000 in
theorem e49_0 (n : Nat) (v : List Int × Int × Int × Int × Int × Int × Int × List Int × List Int × (List (Int × Int × Bool)) × (List (Int × Int)) × (List (List (Int × Int))) × (List (Int × Int × Int × Int × Bool)) × Int × Int × Int × Int) : ev Try.prog E (oracle k49_0) Try.f49.ntmps (fun x => mem x []) (L49_0 n) (finF Try.prog E Try.f49.results.toList [[(.ptr 0 0 34 [.keep, .keep, .keep, .keep, .keep, .keep, (.ros 22), (.ros 3), (.ros 86), (.ros 24), (.ros 28), (.ros 196), .keep, .keep, .keep, .keep])]] w49_0.alts) 4000 [.code (Try.f49.body.getD .skip)] (argSt (v49_0.enc v)) = F49_0 v := by kernel_rfl
theorem ok49_0 : FnOk Try.prog E 49 v49_0.enc F49_0 w49_0.enc :=
  fn_known (fn := Try.f49) (c := (Try.f49.body.getD .skip)) Try.func49 (by kernel_rfl) rfl envOk (oracle_ok k49_0) mixed v49_0 F49_0 w49_0 [(.ptr 0 0 34 [.keep, .keep, .keep, .keep, .keep, .keep, (.ros 22), (.ros 3), (.ros 86), (.ros 24), (.ros 28), (.ros 196), .keep, .keep, .keep, .keep])] [[(.ptr 0 0 34 [.keep, .keep, .keep, .keep, .keep, .keep, (.ros 22), (.ros 3), (.ros 86), (.ros 24), (.ros 28), (.ros 196), .keep, .keep, .keep, .keep])]] (by kernel_rfl) [] 4000 L49_0 (by kernel_rfl)
    (fun _ h => nomatch h) (fun v _ h => ⟨0, (e49_0 _ v).trans h⟩) (fun _ => by kernel_rfl) (fun _ => by kernel_rfl) (fun _ _ => by kernel_rfl)
/- slices.IndexFunc[[]int,int] -/
abbrev A78_1 : Type := (Int × Int × Int × Int × Int × Int × List Int × List Int × (List (Int × Int × Bool)) × (List (Int × Int)) × (List (List (Int × Int))) × (List (Int × Int × Int × Int × Bool)) × Int × Int × Int × Int) × List Int
abbrev R78_1 : Type := Int × (Int × Int × Int × Int × Int × Int × List Int × List Int × (List (Int × Int × Bool)) × (List (Int × Int)) × (List (List (Int × Int))) × (List (Int × Int × Int × Int × Bool)) × Int × Int × Int × Int) × List Int
def v78_1 : Pk G ((Int × Int × Int × Int × Int × Int × List Int × List Int × (List (Int × Int × Bool)) × (List (Int × Int)) × (List (List (Int × Int))) × (List (Int × Int × Int × Int × Bool)) × Int × Int × Int × Int) × List Int) := (Pk.snd (pk (Sh.snd (Sh.cons (Sh.osl 0) (Sh.snd (Sh.cons (Sh.snd (Sh.fn (.func 45) Sh.nil (Sh.snd (Sh.cons (Sh.ptr 1 0) Sh.nil)))) Sh.nil)))) (Sh.hfix 1 34 (Sh.cons (Sh.int .i64) (Sh.cons (Sh.int .i64) (Sh.cons (Sh.int .i64) (Sh.cons (Sh.int .i64) (Sh.cons (Sh.int .i64) (Sh.cons (Sh.int .i64) (Sh.cons (Sh.ros 22) (Sh.cons (Sh.ros 3) (Sh.cons (Sh.ros 86) (Sh.cons (Sh.ros 24) (Sh.cons (Sh.ros 28) (Sh.cons (Sh.ros 196) (Sh.cons (Sh.int .i64) (Sh.cons (Sh.int .i64) (Sh.cons (Sh.int .u32) (Sh.fst (Sh.cons (Sh.int .i64) Sh.nil))))))))))))))))) (Sh.fst (Sh.hrow 0 3 Sh.hnil)))))
def w78_1 : Wk G (Int × (Int × Int × Int × Int × Int × Int × List Int × List Int × (List (Int × Int × Bool)) × (List (Int × Int)) × (List (List (Int × Int))) × (List (Int × Int × Int × Int × Bool)) × Int × Int × Int × Int) × List Int) := (Wk.one [.keep] (pk (Sh.fst (Sh.cons (Sh.int .i64) Sh.nil)) (Sh.hfix 1 34 (Sh.cons (Sh.int .i64) (Sh.cons (Sh.int .i64) (Sh.cons (Sh.int .i64) (Sh.cons (Sh.int .i64) (Sh.cons (Sh.int .i64) (Sh.cons (Sh.int .i64) (Sh.cons (Sh.ros 22) (Sh.cons (Sh.ros 3) (Sh.cons (Sh.ros 86) (Sh.cons (Sh.ros 24) (Sh.cons (Sh.ros 28) (Sh.cons (Sh.ros 196) (Sh.cons (Sh.int .i64) (Sh.cons (Sh.int .i64) (Sh.cons (Sh.int .u32) (Sh.fst (Sh.cons (Sh.int .i64) Sh.nil))))))))))))))))) (Sh.fst (Sh.hrow 0 3 Sh.hnil)))))
def c78_1_2 : Pk G ((Int × Int) × (Int × Int × Int × Int × Int × Int × List Int × List Int × (List (Int × Int × Bool)) × (List (Int × Int)) × (List (List (Int × Int))) × (List (Int × Int × Int × Int × Bool)) × Int × Int × Int × Int) × List Int) := (pk (Sh.snd (Sh.cons (Sh.osl 0) (Sh.snd (Sh.cons (Sh.snd (Sh.fn (.func 45) Sh.nil (Sh.snd (Sh.cons (Sh.ptr 1 0) Sh.nil)))) (Sh.cons (Sh.int .i64) (Sh.fst (Sh.cons (Sh.int .i64) Sh.nil))))))) (Sh.hfix 1 34 (Sh.cons (Sh.int .i64) (Sh.cons (Sh.int .i64) (Sh.cons (Sh.int .i64) (Sh.cons (Sh.int .i64) (Sh.cons (Sh.int .i64) (Sh.cons (Sh.int .i64) (Sh.cons (Sh.ros 22) (Sh.cons (Sh.ros 3) (Sh.cons (Sh.ros 86) (Sh.cons (Sh.ros 24) (Sh.cons (Sh.ros 28) (Sh.cons (Sh.ros 196) (Sh.cons (Sh.int .i64) (Sh.cons (Sh.int .i64) (Sh.cons (Sh.int .u32) (Sh.fst (Sh.cons (Sh.int .i64) Sh.nil))))))))))))))))) (Sh.fst (Sh.hrow 0 3 Sh.hnil))))
def B78_1_2 (K : (((Int × Int) × (Int × Int × Int × Int × Int × Int × List Int × List Int × (List (Int × Int × Bool)) × (List (Int × Int)) × (List (List (Int × Int))) × (List (Int × Int × Int × Int × Bool)) × Int × Int × Int × Int) × List Int) → Option (Int × (Int × Int × Int × Int × Int × Int × List Int × List Int × (List (Int × Int × Bool)) × (List (Int × Int)) × (List (List (Int × Int))) × (List (Int × Int × Int × Int × Bool)) × Int × Int × Int × Int) × List Int))) (v : (Int × Int) × (Int × Int × Int × Int × Int × Int × List Int × List Int × (List (Int × Int × Bool)) × (List (Int × Int)) × (List (List (Int × Int))) × (List (Int × Int × Int × Int × Bool)) × Int × Int × Int × Int) × List Int) : Option (Int × (Int × Int × Int × Int × Int × Int × List Int × List Int × (List (Int × Int × Bool)) × (List (Int × Int)) × (List (List (Int × Int))) × (List (Int × Int × Int × Int × Bool)) × Int × Int × Int × Int) × List Int) :=
  bif (decide (v.1.2 < v.1.1)) then
    (idx v.1.2 (v.2.2).length).bind fun (x157 : Nat) =>
    ((v.2.2)[x157]?).bind fun (x158 : Int) =>
    (F45_0 (x158, v.2.1)).bind fun r159 =>
    bif r159.1 then
      some (v.1.2, (r159.2, v.2.2))
    else
      let x160 : Int := (IntKind.wrap .i64 (v.1.2 + (1 : Int)))
      K ((v.1.1, x160), (r159.2, v.2.2))
  else
    some ((-1 : Int), v.2)

def E78_1 (K : (((Int × Int) × (Int × Int × Int × Int × Int × Int × List Int × List Int × (List (Int × Int × Bool)) × (List (Int × Int)) × (List (List (Int × Int))) × (List (Int × Int × Int × Int × Bool)) × Int × Int × Int × Int) × List Int) → Option (Int × (Int × Int × Int × Int × Int × Int × List Int × List Int × (List (Int × Int × Bool)) × (List (Int × Int)) × (List (List (Int × Int))) × (List (Int × Int × Int × Int × Bool)) × Int × Int × Int × Int) × List Int))) (v : (Int × Int × Int × Int × Int × Int × List Int × List Int × (List (Int × Int × Bool)) × (List (Int × Int)) × (List (List (Int × Int))) × (List (Int × Int × Int × Int × Bool)) × Int × Int × Int × Int) × List Int) : Option (Int × (Int × Int × Int × Int × Int × Int × List Int × List Int × (List (Int × Int × Bool)) × (List (Int × Int)) × (List (List (Int × Int))) × (List (Int × Int × Int × Int × Bool)) × Int × Int × Int × Int) × List Int) :=
  K ((((v.2).length : Int), (0 : Int)), v)

def K78_1 : Nat → (((Int × Int) × (Int × Int × Int × Int × Int × Int × List Int × List Int × (List (Int × Int × Bool)) × (List (Int × Int)) × (List (List (Int × Int))) × (List (Int × Int × Int × Int × Bool)) × Int × Int × Int × Int) × List Int) → Option (Int × (Int × Int × Int × Int × Int × Int × List Int × List Int × (List (Int × Int × Bool)) × (List (Int × Int)) × (List (List (Int × Int))) × (List (Int × Int × Int × Int × Bool)) × Int × Int × Int × Int) × List Int))
  | 0 => (fun _ => none)
  | n + 1 => (B78_1_2 (K78_1 n))
def fuel78_1 (v : (Int × Int × Int × Int × Int × Int × List Int × List Int × (List (Int × Int × Bool)) × (List (Int × Int)) × (List (List (Int × Int))) × (List (Int × Int × Int × Int × Bool)) × Int × Int × Int × Int) × List Int) : Nat := 1300
def F78_1 (v : (Int × Int × Int × Int × Int × Int × List Int × List Int × (List (Int × Int × Bool)) × (List (Int × Int)) × (List (List (Int × Int))) × (List (Int × Int × Int × Int × Bool)) × Int × Int × Int × Int) × List Int) : Option (Int × (Int × Int × Int × Int × Int × Int × List Int × List Int × (List (Int × Int × Bool)) × (List (Int × Int)) × (List (List (Int × Int))) × (List (Int × Int × Int × Int × Bool)) × Int × Int × Int × Int) × List Int) := E78_1 (K78_1 (fuel78_1 v)) v
noncomputable def k78_1 : List (Known Try.prog E) := [Known.of envOk [1, 5] [.keep, (.ptr 0 0 34 [.keep, .keep, .keep, .keep, .keep, .keep, (.ros 22), (.ros 3), (.ros 86), (.ros 24), (.ros 28), (.ros 196), .keep, .keep, .keep, .keep])] v45_0 F45_0 w45_0 ok45_0]
def s78_1_2 : List (Nat × Pat) := [(0, (.own 0 3)), (1, (.fn (.func 45) [] [(.ptr 1 0 34 [])])), (7, .keep), (8, .keep)]
noncomputable def L78_1 (n id : Nat) (st : St G) : Option (Int × (Int × Int × Int × Int × Int × Int × List Int × List Int × (List (Int × Int × Bool)) × (List (Int × Int)) × (List (List (Int × Int))) × (List (Int × Int × Int × Int × Bool)) × Int × Int × Int × Int) × List Int) := match Nat.beq id 2 with | true => cutK Try.prog s78_1_2 [(.own 0 3), (.ptr 1 0 34 [.keep, .keep, .keep, .keep, .keep, .keep, (.ros 22), (.ros 3), (.ros 86), (.ros 24), (.ros 28), (.ros 196), .keep, .keep, .keep, .keep])] c78_1_2.dec (K78_1 n) st | false => none
set_option maxRecDepth 100000 in
theorem e78_1 (n : Nat) (v : (Int × Int × Int × Int × Int × Int × List Int × List Int × (List (Int × Int × Bool)) × (List (Int × Int)) × (List (List (Int × Int))) × (List (Int × Int × Int × Int × Bool)) × Int × Int × Int × Int) × List Int) : ev Try.prog E (oracle k78_1) Try.f78.ntmps (fun x => mem x [2]) (L78_1 n) (finF Try.prog E Try.f78.results.toList [[(.own 0 3), (.ptr 1 0 34 [.keep, .keep, .keep, .keep, .keep, .keep, (.ros 22), (.ros 3), (.ros 86), (.ros 24), (.ros 28), (.ros 196), .keep, .keep, .keep, .keep])]] w78_1.alts) 4000 [.code (Try.f78.body.getD .skip)] (argSt (v78_1.enc v)) = E78_1 (K78_1 n) v := by kernel_rfl
set_option maxRecDepth 100000 in
theorem b78_1_2 (n : Nat) (v : (Int × Int) × (Int × Int × Int × Int × Int × Int × List Int × List Int × (List (Int × Int × Bool)) × (List (Int × Int)) × (List (List (Int × Int))) × (List (Int × Int × Int × Int × Bool)) × Int × Int × Int × Int) × List Int) : evCut Try.prog E (oracle k78_1) false 78 Try.f78.ntmps (fun x => mem x [2]) (L78_1 n) (finF Try.prog E Try.f78.results.toList [[(.own 0 3), (.ptr 1 0 34 [.keep, .keep, .keep, .keep, .keep, .keep, (.ros 22), (.ros 3), (.ros 86), (.ros 24), (.ros 28), (.ros 196), .keep, .keep, .keep, .keep])]] w78_1.alts) 4000 (todoAt (Try.f78.body.getD .skip) 2) (cutSt s78_1_2 (c78_1_2.enc v)) = B78_1_2 (K78_1 n) v := by kernel_rfl
theorem ok78_1 : FnOk Try.prog E 78 v78_1.enc F78_1 w78_1.enc :=
  fn_known (fn := Try.f78) (c := (Try.f78.body.getD .skip)) Try.func78 (by kernel_rfl) rfl envOk (oracle_ok k78_1) mixed v78_1 F78_1 w78_1 [(.own 0 3), (.ptr 1 0 34 [.keep, .keep, .keep, .keep, .keep, .keep, (.ros 22), (.ros 3), (.ros 86), (.ros 24), (.ros 28), (.ros 196), .keep, .keep, .keep, .keep])] [[(.own 0 3), (.ptr 1 0 34 [.keep, .keep, .keep, .keep, .keep, .keep, (.ros 22), (.ros 3), (.ros 86), (.ros 24), (.ros 28), (.ros 196), .keep, .keep, .keep, .keep])]] (by kernel_rfl) [2] 4000 L78_1 (by kernel_rfl)
    (List.forall_mem_cons.2 ⟨⟨_, [(.own 0 3), (.ptr 1 0 34 [.keep, .keep, .keep, .keep, .keep, .keep, (.ros 22), (.ros 3), (.ros 86), (.ros 24), (.ros 28), (.ros 196), .keep, .keep, .keep, .keep])], s78_1_2, c78_1_2.dec, c78_1_2.enc, fun n => (K78_1 n), c78_1_2.ok, fun _ _ => rfl, fun _ => rfl, by kernel_rfl, fun n v _ h => (b78_1_2 n v).trans h⟩, fun _ h => (nomatch h)⟩) (fun v _ h => ⟨fuel78_1 v, (e78_1 _ v).trans h⟩) (fun _ => by kernel_rfl) (fun _ => by kernel_rfl) (fun _ _ => by kernel_rfl)
/- slices.ContainsFunc[[]int,int] -/
abbrev A49_1 : Type := (Int × Int × Int × Int × Int × Int × List Int × List Int × (List (Int × Int × Bool)) × (List (Int × Int)) × (List (List (Int × Int))) × (List (Int × Int × Int × Int × Bool)) × Int × Int × Int × Int) × List Int
abbrev R49_1 : Type := Bool × (Int × Int × Int × Int × Int × Int × List Int × List Int × (List (Int × Int × Bool)) × (List (Int × Int)) × (List (List (Int × Int))) × (List (Int × Int × Int × Int × Bool)) × Int × Int × Int × Int) × List Int
def v49_1 : Pk G ((Int × Int × Int × Int × Int × Int × List Int × List Int × (List (Int × Int × Bool)) × (List (Int × Int)) × (List (List (Int × Int))) × (List (Int × Int × Int × Int × Bool)) × Int × Int × Int × Int) × List Int) := (Pk.snd (pk (Sh.snd (Sh.cons (Sh.osl 0) (Sh.snd (Sh.cons (Sh.snd (Sh.fn (.func 45) Sh.nil (Sh.snd (Sh.cons (Sh.ptr 1 0) Sh.nil)))) Sh.nil)))) (Sh.hfix 1 34 (Sh.cons (Sh.int .i64) (Sh.cons (Sh.int .i64) (Sh.cons (Sh.int .i64) (Sh.cons (Sh.int .i64) (Sh.cons (Sh.int .i64) (Sh.cons (Sh.int .i64) (Sh.cons (Sh.ros 22) (Sh.cons (Sh.ros 3) (Sh.cons (Sh.ros 86) (Sh.cons (Sh.ros 24) (Sh.cons (Sh.ros 28) (Sh.cons (Sh.ros 196) (Sh.cons (Sh.int .i64) (Sh.cons (Sh.int .i64) (Sh.cons (Sh.int .u32) (Sh.fst (Sh.cons (Sh.int .i64) Sh.nil))))))))))))))))) (Sh.fst (Sh.hrow 0 3 Sh.hnil)))))
def w49_1 : Wk G (Bool × (Int × Int × Int × Int × Int × Int × List Int × List Int × (List (Int × Int × Bool)) × (List (Int × Int)) × (List (List (Int × Int))) × (List (Int × Int × Int × Int × Bool)) × Int × Int × Int × Int) × List Int) := (Wk.one [.keep] (pk (Sh.fst (Sh.cons Sh.bool Sh.nil)) (Sh.hfix 1 34 (Sh.cons (Sh.int .i64) (Sh.cons (Sh.int .i64) (Sh.cons (Sh.int .i64) (Sh.cons (Sh.int .i64) (Sh.cons (Sh.int .i64) (Sh.cons (Sh.int .i64) (Sh.cons (Sh.ros 22) (Sh.cons (Sh.ros 3) (Sh.cons (Sh.ros 86) (Sh.cons (Sh.ros 24) (Sh.cons (Sh.ros 28) (Sh.cons (Sh.ros 196) (Sh.cons (Sh.int .i64) (Sh.cons (Sh.int .i64) (Sh.cons (Sh.int .u32) (Sh.fst (Sh.cons (Sh.int .i64) Sh.nil))))))))))))))))) (Sh.fst (Sh.hrow 0 3 Sh.hnil)))))
def F49_1 (v : (Int × Int × Int × Int × Int × Int × List Int × List Int × (List (Int × Int × Bool)) × (List (Int × Int)) × (List (List (Int × Int))) × (List (Int × Int × Int × Int × Bool)) × Int × Int × Int × Int) × List Int) : Option (Bool × (Int × Int × Int × Int × Int × Int × List Int × List Int × (List (Int × Int × Bool)) × (List (Int × Int)) × (List (List (Int × Int))) × (List (Int × Int × Int × Int × Bool)) × Int × Int × Int × Int) × List Int) :=
  (F78_1 v).bind fun r163 =>
  some ((decide (r163.1 ≥ (0 : Int))), r163.2)

noncomputable def k49_1 : List (Known Try.prog E) := [Known.of envOk [7, 145] [(.own 0 3), (.fn (.func 45) [] [(.ptr 1 0 34 [.keep, .keep, .keep, .keep, .keep, .keep, (.ros 22), (.ros 3), (.ros 86), (.ros 24), (.ros 28), (.ros 196), .keep, .keep, .keep, .keep])])] v78_1 F78_1 w78_1 ok78_1]
noncomputable def L49_1 (n id : Nat) (st : St G) : Option (Bool × (Int × Int × Int × Int × Int × Int × List Int × List Int × (List (Int × Int × Bool)) × (List (Int × Int)) × (List (List (Int × Int))) × (List (Int × Int × Int × Int × Bool)) × Int × Int × Int × Int) × List Int) := none
set_option maxRecDepth 100000 in
theorem e49_1 (n : Nat) (v : (Int × Int × Int × Int × Int × Int × List Int × List Int × (List (Int × Int × Bool)) × (List (Int × Int)) × (List (List (Int × Int))) × (List (Int × Int × Int × Int × Bool)) × Int × Int × Int × Int) × List Int) : ev Try.prog E (oracle k49_1) Try.f49.ntmps (fun x => mem x []) (L49_1 n) (finF Try.prog E Try.f49.results.toList [[(.own 0 3), (.ptr 1 0 34 [.keep, .keep, .keep, .keep, .keep, .keep, (.ros 22), (.ros 3), (.ros 86), (.ros 24), (.ros 28), (.ros 196), .keep, .keep, .keep, .keep])]] w49_1.alts) 4000 [.code (Try.f49.body.getD .skip)] (argSt (v49_1.enc v)) = F49_1 v := by kernel_rfl
theorem ok49_1 : FnOk Try.prog E 49 v49_1.enc F49_1 w49_1.enc :=
  fn_known (fn := Try.f49) (c := (Try.f49.body.getD .skip)) Try.func49 (by kernel_rfl) rfl envOk (oracle_ok k49_1) mixed v49_1 F49_1 w49_1 [(.own 0 3), (.ptr 1 0 34 [.keep, .keep, .keep, .keep, .keep, .keep, (.ros 22), (.ros 3), (.ros 86), (.ros 24), (.ros 28), (.ros 196), .keep, .keep, .keep, .keep])] [[(.own 0 3), (.ptr 1 0 34 [.keep, .keep, .keep, .keep, .keep, .keep, (.ros 22), (.ros 3), (.ros 86), (.ros 24), (.ros 28), (.ros 196), .keep, .keep, .keep, .keep])]] (by kernel_rfl) [] 4000 L49_1 (by kernel_rfl)
    (fun _ h => nomatch h) (fun v _ h => ⟨0, (e49_1 _ v).trans h⟩) (fun _ => by kernel_rfl) (fun _ => by kernel_rfl) (fun _ _ => by kernel_rfl)
/- chicane/field.New$2 -/
abbrev A46_0 : Type := Int × Int × Bool
abbrev R46_0 : Type := Bool
def v46_0 : Pk G (Int × Int × Bool) := (Pk.fst (pk (Sh.fst (Sh.cons (Sh.agg (Sh.cons (Sh.int .i64) (Sh.cons (Sh.int .i64) (Sh.fst (Sh.cons Sh.bool Sh.nil))))) Sh.nil)) Sh.hnil))
def w46_0 : Wk G Bool := (Wk.one [.keep] (Pk.fst (pk (Sh.fst (Sh.cons Sh.bool Sh.nil)) Sh.hnil)))
def F46_0 (v : Int × Int × Bool) : Option Bool :=
  let x169 : Int := (if v.2.1 < v.1 then v.2.1 else v.1)
  bif (decide (x169 < (0 : Int))) then
    some (true)
  else
    bif (decide (v.1 > (8589934592 : Int))) then
      some (true)
    else
      some (decide (v.2.1 > (4294967296 : Int)))

noncomputable def k46_0 : List (Known Try.prog E) := []
noncomputable def L46_0 (n id : Nat) (st : St G) : Option Bool := none
set_option maxRecDepth 100000 in
theorem e46_0 (n : Nat) (v : Int × Int × Bool) : ev Try.prog E (oracle k46_0) Try.f46.ntmps (fun x => mem x []) (L46_0 n) (finF Try.prog E Try.f46.results.toList [[]] w46_0.alts) 4000 [.code (Try.f46.body.getD .skip)] (argSt (v46_0.enc v)) = F46_0 v := by kernel_rfl
theorem ok46_0 : FnOk Try.prog E 46 v46_0.enc F46_0 w46_0.enc :=
  fn_known (fn := Try.f46) (c := (Try.f46.body.getD .skip)) Try.func46 (by kernel_rfl) rfl envOk (oracle_ok k46_0) mixed v46_0 F46_0 w46_0 [] [[]] (by kernel_rfl) [] 4000 L46_0 (by kernel_rfl)
    (fun _ h => nomatch h) (fun v _ h => ⟨0, (e46_0 _ v).trans h⟩) (fun _ => by kernel_rfl) (fun _ => by kernel_rfl) (fun _ _ => by kernel_rfl)
/- slices.IndexFunc[[]chicane/api.Kind,chicane/api.Kind] -/
abbrev A79_0 : Type := List (Int × Int × Bool)
abbrev R79_0 : Type := Int
def v79_0 : Pk G (List (Int × Int × Bool)) := (Pk.fst (pk (Sh.fst (Sh.cons (Sh.ros 86) (Sh.snd (Sh.cons (Sh.snd (Sh.fn (.func 46) Sh.nil Sh.nil)) Sh.nil)))) Sh.hnil))
def w79_0 : Wk G Int := (Wk.one [.keep] (Pk.fst (pk (Sh.fst (Sh.cons (Sh.int .i64) Sh.nil)) Sh.hnil)))
def c79_0_2 : Pk G ((List (Int × Int × Bool)) × Int × Int) := (Pk.fst (pk (Sh.cons (Sh.ros 86) (Sh.snd (Sh.cons (Sh.snd (Sh.fn (.func 46) Sh.nil Sh.nil)) (Sh.cons (Sh.int .i64) (Sh.fst (Sh.cons (Sh.int .i64) Sh.nil)))))) Sh.hnil))
def B79_0_2 (K : (((List (Int × Int × Bool)) × Int × Int) → Option Int)) (v : (List (Int × Int × Bool)) × Int × Int) : Option Int :=
  bif (decide (v.2.2 < v.2.1)) then
    (rdx v.1 v.2.2).bind fun (x176 : Int × Int × Bool) =>
    (F46_0 x176).bind fun r177 =>
    bif r177 then
      some (v.2.2)
    else
      let x178 : Int := (IntKind.wrap .i64 (v.2.2 + (1 : Int)))
      K (v.1, (v.2.1, x178))
  else
    some (-1 : Int)

def E79_0 (K : (((List (Int × Int × Bool)) × Int × Int) → Option Int)) (v : List (Int × Int × Bool)) : Option Int :=
  K (v, (((v).length : Int), (0 : Int)))

def K79_0 : Nat → (((List (Int × Int × Bool)) × Int × Int) → Option Int)
  | 0 => (fun _ => none)
  | n + 1 => (B79_0_2 (K79_0 n))
def fuel79_0 (v : List (Int × Int × Bool)) : Nat := 1000
def F79_0 (v : List (Int × Int × Bool)) : Option Int := E79_0 (K79_0 (fuel79_0 v)) v
noncomputable def k79_0 : List (Known Try.prog E) := [Known.of envOk [9] [(.agg [.keep, .keep, .keep])] v46_0 F46_0 w46_0 ok46_0]
def s79_0_2 : List (Nat × Pat) := [(0, (.ros 86)), (1, (.fn (.func 46) [] [])), (7, .keep), (8, .keep)]
noncomputable def L79_0 (n id : Nat) (st : St G) : Option Int := match Nat.beq id 2 with | true => cutK Try.prog s79_0_2 [] c79_0_2.dec (K79_0 n) st | false => none
set_option maxRecDepth 100000 in
theorem e79_0 (n : Nat) (v : List (Int × Int × Bool)) : ev Try.prog E (oracle k79_0) Try.f79.ntmps (fun x => mem x [2]) (L79_0 n) (finF Try.prog E Try.f79.results.toList [[]] w79_0.alts) 4000 [.code (Try.f79.body.getD .skip)] (argSt (v79_0.enc v)) = E79_0 (K79_0 n) v := by kernel_rfl
set_option maxRecDepth 100000 in
theorem b79_0_2 (n : Nat) (v : (List (Int × Int × Bool)) × Int × Int) : evCut Try.prog E (oracle k79_0) false 79 Try.f79.ntmps (fun x => mem x [2]) (L79_0 n) (finF Try.prog E Try.f79.results.toList [[]] w79_0.alts) 4000 (todoAt (Try.f79.body.getD .skip) 2) (cutSt s79_0_2 (c79_0_2.enc v)) = B79_0_2 (K79_0 n) v := by kernel_rfl
theorem ok79_0 : FnOk Try.prog E 79 v79_0.enc F79_0 w79_0.enc :=
  fn_known (fn := Try.f79) (c := (Try.f79.body.getD .skip)) Try.func79 (by kernel_rfl) rfl envOk (oracle_ok k79_0) mixed v79_0 F79_0 w79_0 [] [[]] (by kernel_rfl) [2] 4000 L79_0 (by kernel_rfl)
    (List.forall_mem_cons.2 ⟨⟨_, [], s79_0_2, c79_0_2.dec, c79_0_2.enc, fun n => (K79_0 n), c79_0_2.ok, fun _ _ => rfl, fun _ => rfl, by kernel_rfl, fun n v _ h => (b79_0_2 n v).trans h⟩, fun _ h => (nomatch h)⟩) (fun v _ h => ⟨fuel79_0 v, (e79_0 _ v).trans h⟩) (fun _ => by kernel_rfl) (fun _ => by kernel_rfl) (fun _ _ => by kernel_rfl)
/- slices.ContainsFunc[[]chicane/api.Kind,chicane/api.Kind] -/
abbrev A50_0 : Type := List (Int × Int × Bool)
abbrev R50_0 : Type := Bool
def v50_0 : Pk G (List (Int × Int × Bool)) := (Pk.fst (pk (Sh.fst (Sh.cons (Sh.ros 86) (Sh.snd (Sh.cons (Sh.snd (Sh.fn (.func 46) Sh.nil Sh.nil)) Sh.nil)))) Sh.hnil))
def w50_0 : Wk G Bool := (Wk.one [.keep] (Pk.fst (pk (Sh.fst (Sh.cons Sh.bool Sh.nil)) Sh.hnil)))
def F50_0 (v : List (Int × Int × Bool)) : Option Bool :=
  (F79_0 v).bind fun r181 =>
  some (decide (r181 ≥ (0 : Int)))

noncomputable def k50_0 : List (Known Try.prog E) := [Known.of envOk [7, 146] [(.ros 86), (.fn (.func 46) [] [])] v79_0 F79_0 w79_0 ok79_0]
noncomputable def L50_0 (n id : Nat) (st : St G) : Option Bool := none
set_option maxRecDepth 100000 in
theorem e50_0 (n : Nat) (v : List (Int × Int × Bool)) : ev Try.prog E (oracle k50_0) Try.f50.ntmps (fun x => mem x []) (L50_0 n) (finF Try.prog E Try.f50.results.toList [[]] w50_0.alts) 4000 [.code (Try.f50.body.getD .skip)] (argSt (v50_0.enc v)) = F50_0 v := by kernel_rfl
theorem ok50_0 : FnOk Try.prog E 50 v50_0.enc F50_0 w50_0.enc :=
  fn_known (fn := Try.f50) (c := (Try.f50.body.getD .skip)) Try.func50 (by kernel_rfl) rfl envOk (oracle_ok k50_0) mixed v50_0 F50_0 w50_0 [] [[]] (by kernel_rfl) [] 4000 L50_0 (by kernel_rfl)
    (fun _ h => nomatch h) (fun v _ h => ⟨0, (e50_0 _ v).trans h⟩) (fun _ => by kernel_rfl) (fun _ => by kernel_rfl) (fun _ _ => by kernel_rfl)
/- chicane/field.New -/
abbrev A14_0 : Type := Int × Int × Int × Int × Int × Int × List Int × List Int × (List (Int × Int × Bool)) × (List (Int × Int)) × (List (List (Int × Int))) × (List (Int × Int × Int × Int × Bool)) × Int × Int × Int × Int
abbrev R14_0 : Type := Int ⊕ (Int × (Int × Int × Int × Int × Int) × List Int × List Int)
def v14_0 : Pk G (Int × Int × Int × Int × Int × Int × List Int × List Int × (List (Int × Int × Bool)) × (List (Int × Int)) × (List (List (Int × Int))) × (List (Int × Int × Int × Int × Bool)) × Int × Int × Int × Int) := (Pk.fst (pk (Sh.fst (Sh.cons (Sh.agg (Sh.cons (Sh.int .i64) (Sh.cons (Sh.int .i64) (Sh.cons (Sh.int .i64) (Sh.cons (Sh.int .i64) (Sh.cons (Sh.int .i64) (Sh.cons (Sh.int .i64) (Sh.cons (Sh.ros 22) (Sh.cons (Sh.ros 3) (Sh.cons (Sh.ros 86) (Sh.cons (Sh.ros 24) (Sh.cons (Sh.ros 28) (Sh.cons (Sh.ros 196) (Sh.cons (Sh.int .i64) (Sh.cons (Sh.int .i64) (Sh.cons (Sh.int .u32) (Sh.fst (Sh.cons (Sh.int .i64) Sh.nil)))))))))))))))))) Sh.nil)) Sh.hnil))
def w14_0 : Wk G (Int ⊕ (Int × (Int × Int × Int × Int × Int) × List Int × List Int)) := (Wk.alt (Wk.one [.keep, .keep] (Pk.fst (pk (Sh.snd (Sh.cons Sh.nilptr (Sh.fst (Sh.cons (Sh.int .i64) Sh.nil)))) Sh.hnil))) (Wk.one [(.ptr 0 0 91 [.keep, .keep, .keep, .keep, .keep, (.own 1 22), (.own 2 3)]), .keep] (pk (Sh.snd (Sh.cons (Sh.ptr 0 0) (Sh.fst (Sh.cons (Sh.int .i64) Sh.nil)))) (Sh.hfix 0 91 (Sh.cons (Sh.int .i64) (Sh.cons (Sh.int .i64) (Sh.cons (Sh.int .i64) (Sh.cons (Sh.int .i64) (Sh.fst (Sh.cons (Sh.int .i64) (Sh.snd (Sh.cons (Sh.osl 1) (Sh.snd (Sh.cons (Sh.osl 2) Sh.nil)))))))))) (Sh.hrow 2 3 (Sh.fst (Sh.hrow 1 22 Sh.hnil)))))))
def F14_0 (v : Int × Int × Int × Int × Int × Int × List Int × List Int × (List (Int × Int × Bool)) × (List (Int × Int)) × (List (List (Int × Int))) × (List (Int × Int × Int × Int × Bool)) × Int × Int × Int × Int) : Option (Int ⊕ (Int × (Int × Int × Int × Int × Int) × List Int × List Int)) :=
  (F42_0 v).bind fun r191 =>
  bif (!r191) then
    some (.inl (42 : Int))
  else
    (F43_0 v.2.2.2.2.2.2.1).bind fun r192 =>
    (F44_0 v.2.2.2.2.2.2.2.1).bind fun r193 =>
    bif (decide (v.2.1 < (17179869184 : Int))) then
      some (.inl (40 : Int))
    else
      bif (decide (v.2.1 > (274877906944 : Int))) then
        some (.inl (40 : Int))
      else
        (F47_0 ((140737488355328 : Int), ([v.2.2.2.2.1, v.2.2.2.2.2.1] : List Int))).bind fun r194 =>
        bif (!r194) then
          some (.inl (40 : Int))
        else
          (F47_0 ((2199023255552 : Int), r192)).bind fun r195 =>
          bif (!r195) then
            some (.inl (40 : Int))
          else
            (F48_0 ((v.2.1, (v.2.2.1, (v.2.2.2.1, (v.2.2.2.2.1, v.2.2.2.2.2.1)))), (r193, r192))).bind fun r196 =>
            bif (!r196.1) then
              some (.inl (40 : Int))
            else
              (F49_1 (v, r196.2.2.2)).bind fun r197 =>
              bif r197.1 then
                some (.inl (40 : Int))
              else
                (F50_0 r197.2.1.2.2.2.2.2.2.2.2.1).bind fun r198 =>
                bif r198 then
                  some (.inl (40 : Int))
                else
                  some (.inr ((0 : Int), (r196.2.1, (r197.2.2, r196.2.2.1))))

noncomputable def k14_0 : List (Known Try.prog E) := [Known.of envOk [9] [(.agg [.keep, .keep, .keep, .keep, .keep, .keep, (.ros 22), (.ros 3), (.ros 86), (.ros 24), (.ros 28), (.ros 196), .keep, .keep, .keep, .keep])] v42_0 F42_0 w42_0 ok42_0, Known.of envOk [7] [(.ros 22)] v43_0 F43_0 w43_0 ok43_0, Known.of envOk [7] [(.ros 3)] v44_0 F44_0 w44_0 ok44_0, Known.of envOk [1, 7] [.keep, (.ros 22)] v47_0 F47_0 w47_0 ok47_0, Known.of envOk [5] [(.ptr 0 0 91 [.keep, .keep, .keep, .keep, .keep, (.own 1 22), (.own 2 3)])] v48_0 F48_0 w48_0 ok48_0, Known.of envOk [7, 145] [(.own 0 3), (.fn (.func 45) [] [(.ptr 1 0 34 [.keep, .keep, .keep, .keep, .keep, .keep, (.ros 22), (.ros 3), (.ros 86), (.ros 24), (.ros 28), (.ros 196), .keep, .keep, .keep, .keep])])] v49_1 F49_1 w49_1 ok49_1, Known.of envOk [7, 146] [(.ros 86), (.fn (.func 46) [] [])] v50_0 F50_0 w50_0 ok50_0]
noncomputable def L14_0 (n id : Nat) (st : St G) : Option (Int ⊕ (Int × (Int × Int × Int × Int × Int) × List Int × List Int)) := none
set_option maxRecDepth 100000 in
theorem e14_0 (n : Nat) (v : Int × Int × Int × Int × Int × Int × List Int × List Int × (List (Int × Int × Bool)) × (List (Int × Int)) × (List (List (Int × Int))) × (List (Int × Int × Int × Int × Bool)) × Int × Int × Int × Int) : ev Try.prog E (oracle k14_0) Try.f14.ntmps (fun x => mem x []) (L14_0 n) (finF Try.prog E Try.f14.results.toList [[], []] w14_0.alts) 4000 [.code (Try.f14.body.getD .skip)] (argSt (v14_0.enc v)) = F14_0 v := by kernel_rfl
theorem ok14_0 : FnOk Try.prog E 14 v14_0.enc F14_0 w14_0.enc :=
  fn_known (fn := Try.f14) (c := (Try.f14.body.getD .skip)) Try.func14 (by kernel_rfl) rfl envOk (oracle_ok k14_0) mixed v14_0 F14_0 w14_0 [] [[], []] (by kernel_rfl) [] 4000 L14_0 (by kernel_rfl)
    (fun _ h => nomatch h) (fun v _ h => ⟨0, (e14_0 _ v).trans h⟩) (fun _ => by kernel_rfl) (fun _ => by kernel_rfl) (fun _ r => by rcases r with r | r <;> kernel_rfl)
/- chicane/fx.Clamp -/
abbrev A80_0 : Type := Int × Int × Int
abbrev R80_0 : Type := Int
def v80_0 : Pk G (Int × Int × Int) := (Pk.fst (pk (Sh.cons (Sh.int .i64) (Sh.cons (Sh.int .i64) (Sh.fst (Sh.cons (Sh.int .i64) Sh.nil)))) Sh.hnil))
def w80_0 : Wk G Int := (Wk.one [.keep] (Pk.fst (pk (Sh.fst (Sh.cons (Sh.int .i64) Sh.nil)) Sh.hnil)))
def F80_0 (v : Int × Int × Int) : Option Int :=
  bif (decide (v.1 < v.2.1)) then
    some (v.2.1)
  else
    bif (decide (v.1 > v.2.2)) then
      some (v.2.2)
    else
      some (v.1)

noncomputable def k80_0 : List (Known Try.prog E) := []
noncomputable def L80_0 (n id : Nat) (st : St G) : Option Int := none
set_option maxRecDepth 100000 in
theorem e80_0 (n : Nat) (v : Int × Int × Int) : ev Try.prog E (oracle k80_0) Try.f80.ntmps (fun x => mem x []) (L80_0 n) (finF Try.prog E Try.f80.results.toList [[]] w80_0.alts) 4000 [.code (Try.f80.body.getD .skip)] (argSt (v80_0.enc v)) = F80_0 v := by kernel_rfl
theorem ok80_0 : FnOk Try.prog E 80 v80_0.enc F80_0 w80_0.enc :=
  fn_known (fn := Try.f80) (c := (Try.f80.body.getD .skip)) Try.func80 (by kernel_rfl) rfl envOk (oracle_ok k80_0) mixed v80_0 F80_0 w80_0 [] [[]] (by kernel_rfl) [] 4000 L80_0 (by kernel_rfl)
    (fun _ h => nomatch h) (fun v _ h => ⟨0, (e80_0 _ v).trans h⟩) (fun _ => by kernel_rfl) (fun _ => by kernel_rfl) (fun _ _ => by kernel_rfl)
/- (*chicane/field.Field).axis -/
abbrev A51_0 : Type := (Int × Int × Int) × (Int × Int × Int × Int × Int) × List Int × List Int
abbrev R51_0 : Type := (Int × Int) × (Int × Int × Int × Int × Int) × List Int × List Int
def v51_0 : Pk G ((Int × Int × Int) × (Int × Int × Int × Int × Int) × List Int × List Int) := (pk (Sh.snd (Sh.cons (Sh.ptr 0 0) (Sh.cons (Sh.int .i64) (Sh.cons (Sh.int .i64) (Sh.fst (Sh.cons (Sh.int .i64) Sh.nil)))))) (Sh.hfix 0 91 (Sh.cons (Sh.int .i64) (Sh.cons (Sh.int .i64) (Sh.cons (Sh.int .i64) (Sh.cons (Sh.int .i64) (Sh.fst (Sh.cons (Sh.int .i64) (Sh.snd (Sh.cons (Sh.osl 1) (Sh.snd (Sh.cons (Sh.osl 2) Sh.nil)))))))))) (Sh.hrow 2 3 (Sh.fst (Sh.hrow 1 22 Sh.hnil)))))
def w51_0 : Wk G ((Int × Int) × (Int × Int × Int × Int × Int) × List Int × List Int) := (Wk.one [.keep, .keep] (pk (Sh.cons (Sh.int .i64) (Sh.fst (Sh.cons (Sh.int .i64) Sh.nil))) (Sh.hfix 0 91 (Sh.cons (Sh.int .i64) (Sh.cons (Sh.int .i64) (Sh.cons (Sh.int .i64) (Sh.cons (Sh.int .i64) (Sh.fst (Sh.cons (Sh.int .i64) (Sh.snd (Sh.cons (Sh.osl 1) (Sh.snd (Sh.cons (Sh.osl 2) Sh.nil)))))))))) (Sh.hrow 1 22 (Sh.fst (Sh.hrow 2 3 Sh.hnil))))))
def F51_0 (v : (Int × Int × Int) × (Int × Int × Int × Int × Int) × List Int × List Int) : Option ((Int × Int) × (Int × Int × Int × Int × Int) × List Int × List Int) :=
  (F80_0 (v.1.1, ((-281474976710656 : Int), (281474976710656 : Int)))).bind fun r221 =>
  let x222 : Int := (IntKind.wrap .i64 (r221 - v.1.2.1))
  let x223 : Int := (if (0 : Int) > x222 then (0 : Int) else x222)
  (chk (v.2.1.1 != 0)).bind fun _ =>
  let x224 : Int := (IntKind.wrap .i64 (Int.tdiv x223 v.2.1.1))
  let x225 : Int := (IntKind.wrap .i64 (v.1.2.2 - (1 : Int)))
  let x226 : Int := (if x225 < x224 then x225 else x224)
  let x227 : Int := (IntKind.wrap .i64 (x226 * v.2.1.1))
  let x228 : Int := (IntKind.wrap .i64 (x222 - x227))
  some ((x226, x228), (v.2.1, (v.2.2.2, v.2.2.1)))

noncomputable def k51_0 : List (Known Try.prog E) := [Known.of envOk [1, 1, 1] [.keep, .keep, .keep] v80_0 F80_0 w80_0 ok80_0]
noncomputable def L51_0 (n id : Nat) (st : St G) : Option ((Int × Int) × (Int × Int × Int × Int × Int) × List Int × List Int) := none
set_option maxRecDepth 100000 in
theorem e51_0 (n : Nat) (v : (Int × Int × Int) × (Int × Int × Int × Int × Int) × List Int × List Int) : ev Try.prog E (oracle k51_0) Try.f51.ntmps (fun x => mem x []) (L51_0 n) (finF Try.prog E Try.f51.results.toList [[(.own 2 3), (.own 1 22), (.ptr 0 0 91 [.keep, .keep, .keep, .keep, .keep, (.own 1 22), (.own 2 3)])]] w51_0.alts) 4000 [.code (Try.f51.body.getD .skip)] (argSt (v51_0.enc v)) = F51_0 v := by kernel_rfl
theorem ok51_0 : FnOk Try.prog E 51 v51_0.enc F51_0 w51_0.enc :=
  fn_known (fn := Try.f51) (c := (Try.f51.body.getD .skip)) Try.func51 (by kernel_rfl) rfl envOk (oracle_ok k51_0) mixed v51_0 F51_0 w51_0 [(.own 2 3), (.own 1 22), (.ptr 0 0 91 [.keep, .keep, .keep, .keep, .keep, (.own 1 22), (.own 2 3)])] [[(.own 2 3), (.own 1 22), (.ptr 0 0 91 [.keep, .keep, .keep, .keep, .keep, (.own 1 22), (.own 2 3)])]] (by kernel_rfl) [] 4000 L51_0 (by kernel_rfl)
    (fun _ h => nomatch h) (fun v _ h => ⟨0, (e51_0 _ v).trans h⟩) (fun _ => by kernel_rfl) (fun _ => by kernel_rfl) (fun _ _ => by kernel_rfl)
/- (*chicane/field.Field).Where -/
abbrev A15_0 : Type := (Int × Int) × (Int × Int × Int × Int × Int) × List Int × List Int
abbrev R15_0 : Type := (Int × Int × Int × Int) × (Int × Int × Int × Int × Int) × List Int × List Int
def v15_0 : Pk G ((Int × Int) × (Int × Int × Int × Int × Int) × List Int × List Int) := (pk (Sh.snd (Sh.cons (Sh.ptr 0 0) (Sh.cons (Sh.int .i64) (Sh.fst (Sh.cons (Sh.int .i64) Sh.nil))))) (Sh.hfix 0 91 (Sh.cons (Sh.int .i64) (Sh.cons (Sh.int .i64) (Sh.cons (Sh.int .i64) (Sh.cons (Sh.int .i64) (Sh.fst (Sh.cons (Sh.int .i64) (Sh.snd (Sh.cons (Sh.osl 1) (Sh.snd (Sh.cons (Sh.osl 2) Sh.nil)))))))))) (Sh.hrow 2 3 (Sh.fst (Sh.hrow 1 22 Sh.hnil)))))
def w15_0 : Wk G ((Int × Int × Int × Int) × (Int × Int × Int × Int × Int) × List Int × List Int) := (Wk.one [.keep, .keep, .keep, .keep] (pk (Sh.cons (Sh.int .i64) (Sh.cons (Sh.int .i64) (Sh.cons (Sh.int .i64) (Sh.fst (Sh.cons (Sh.int .i64) Sh.nil))))) (Sh.hfix 0 91 (Sh.cons (Sh.int .i64) (Sh.cons (Sh.int .i64) (Sh.cons (Sh.int .i64) (Sh.cons (Sh.int .i64) (Sh.fst (Sh.cons (Sh.int .i64) (Sh.snd (Sh.cons (Sh.osl 1) (Sh.snd (Sh.cons (Sh.osl 2) Sh.nil)))))))))) (Sh.hrow 1 22 (Sh.fst (Sh.hrow 2 3 Sh.hnil))))))
def F15_0 (v : (Int × Int) × (Int × Int × Int × Int × Int) × List Int × List Int) : Option ((Int × Int × Int × Int) × (Int × Int × Int × Int × Int) × List Int × List Int) :=
  (F51_0 ((v.1.1, (v.2.1.2.2.2.1, v.2.1.2.1)), v.2)).bind fun r233 =>
  (F51_0 ((v.1.2, (r233.2.1.2.2.2.2, r233.2.1.2.2.1)), (r233.2.1, (r233.2.2.2, r233.2.2.1)))).bind fun r234 =>
  some ((r233.1.1, (r234.1.1, (r233.1.2, r234.1.2))), r234.2)

noncomputable def k15_0 : List (Known Try.prog E) := [Known.of envOk [5, 1, 1, 1] [(.ptr 0 0 91 [.keep, .keep, .keep, .keep, .keep, (.own 1 22), (.own 2 3)]), .keep, .keep, .keep] v51_0 F51_0 w51_0 ok51_0]
noncomputable def L15_0 (n id : Nat) (st : St G) : Option ((Int × Int × Int × Int) × (Int × Int × Int × Int × Int) × List Int × List Int) := none
set_option maxRecDepth 100000 in
theorem e15_0 (n : Nat) (v : (Int × Int) × (Int × Int × Int × Int × Int) × List Int × List Int) : ev Try.prog E (oracle k15_0) Try.f15.ntmps (fun x => mem x []) (L15_0 n) (finF Try.prog E Try.f15.results.toList [[(.own 2 3), (.own 1 22), (.ptr 0 0 91 [.keep, .keep, .keep, .keep, .keep, (.own 1 22), (.own 2 3)])]] w15_0.alts) 4000 [.code (Try.f15.body.getD .skip)] (argSt (v15_0.enc v)) = F15_0 v := by kernel_rfl
theorem ok15_0 : FnOk Try.prog E 15 v15_0.enc F15_0 w15_0.enc :=
  fn_known (fn := Try.f15) (c := (Try.f15.body.getD .skip)) Try.func15 (by kernel_rfl) rfl envOk (oracle_ok k15_0) mixed v15_0 F15_0 w15_0 [(.own 2 3), (.own 1 22), (.ptr 0 0 91 [.keep, .keep, .keep, .keep, .keep, (.own 1 22), (.own 2 3)])] [[(.own 2 3), (.own 1 22), (.ptr 0 0 91 [.keep, .keep, .keep, .keep, .keep, (.own 1 22), (.own 2 3)])]] (by kernel_rfl) [] 4000 L15_0 (by kernel_rfl)
    (fun _ h => nomatch h) (fun v _ h => ⟨0, (e15_0 _ v).trans h⟩) (fun _ => by kernel_rfl) (fun _ => by kernel_rfl) (fun _ _ => by kernel_rfl)
/- (*chicane/field.Field).at -/
abbrev A53_0 : Type := (Int × Int) × (Int × Int × Int × Int × Int) × List Int × List Int
abbrev R53_0 : Type := (Int × Bool) × (Int × Int × Int × Int × Int) × List Int × List Int
def v53_0 : Pk G ((Int × Int) × (Int × Int × Int × Int × Int) × List Int × List Int) := (pk (Sh.snd (Sh.cons (Sh.ptr 0 0) (Sh.cons (Sh.int .i64) (Sh.fst (Sh.cons (Sh.int .i64) Sh.nil))))) (Sh.hfix 0 91 (Sh.cons (Sh.int .i64) (Sh.cons (Sh.int .i64) (Sh.cons (Sh.int .i64) (Sh.cons (Sh.int .i64) (Sh.fst (Sh.cons (Sh.int .i64) (Sh.snd (Sh.cons (Sh.osl 1) (Sh.snd (Sh.cons (Sh.osl 2) Sh.nil)))))))))) (Sh.hrow 2 3 (Sh.fst (Sh.hrow 1 22 Sh.hnil)))))
def w53_0 : Wk G ((Int × Bool) × (Int × Int × Int × Int × Int) × List Int × List Int) := (Wk.one [.keep, .keep] (pk (Sh.cons (Sh.int .i64) (Sh.fst (Sh.cons Sh.bool Sh.nil))) (Sh.hfix 0 91 (Sh.cons (Sh.int .i64) (Sh.cons (Sh.int .i64) (Sh.cons (Sh.int .i64) (Sh.cons (Sh.int .i64) (Sh.fst (Sh.cons (Sh.int .i64) (Sh.snd (Sh.cons (Sh.osl 1) (Sh.snd (Sh.cons (Sh.osl 2) Sh.nil)))))))))) (Sh.hrow 1 22 (Sh.fst (Sh.hrow 2 3 Sh.hnil))))))
def F53_0 (v : (Int × Int) × (Int × Int × Int × Int × Int) × List Int × List Int) : Option ((Int × Bool) × (Int × Int × Int × Int × Int) × List Int × List Int) :=
  let x244 : Int := (if v.1.2 < v.1.1 then v.1.2 else v.1.1)
  bif (decide (x244 < (0 : Int))) then
    some (((0 : Int), false), (v.2.1, (v.2.2.2, v.2.2.1)))
  else
    bif (decide (v.1.1 ≥ v.2.1.2.1)) then
      some (((0 : Int), false), (v.2.1, (v.2.2.2, v.2.2.1)))
    else
      bif (decide (v.1.2 ≥ v.2.1.2.2.1)) then
        some (((0 : Int), false), (v.2.1, (v.2.2.2, v.2.2.1)))
      else
        let x245 : Int := (IntKind.wrap .i64 (v.2.1.2.1 + (1 : Int)))
        let x246 : Int := (IntKind.wrap .i64 (v.1.2 * x245))
        let x247 : Int := (IntKind.wrap .i64 (x246 + v.1.1))
        some ((x247, true), (v.2.1, (v.2.2.2, v.2.2.1)))

noncomputable def k53_0 : List (Known Try.prog E) := []
noncomputable def L53_0 (n id : Nat) (st : St G) : Option ((Int × Bool) × (Int × Int × Int × Int × Int) × List Int × List Int) := none
set_option maxRecDepth 100000 in
theorem e53_0 (n : Nat) (v : (Int × Int) × (Int × Int × Int × Int × Int) × List Int × List Int) : ev Try.prog E (oracle k53_0) Try.f53.ntmps (fun x => mem x []) (L53_0 n) (finF Try.prog E Try.f53.results.toList [[(.own 2 3), (.own 1 22), (.ptr 0 0 91 [.keep, .keep, .keep, .keep, .keep, (.own 1 22), (.own 2 3)])]] w53_0.alts) 4000 [.code (Try.f53.body.getD .skip)] (argSt (v53_0.enc v)) = F53_0 v := by kernel_rfl
theorem ok53_0 : FnOk Try.prog E 53 v53_0.enc F53_0 w53_0.enc :=
  fn_known (fn := Try.f53) (c := (Try.f53.body.getD .skip)) Try.func53 (by kernel_rfl) rfl envOk (oracle_ok k53_0) mixed v53_0 F53_0 w53_0 [(.own 2 3), (.own 1 22), (.ptr 0 0 91 [.keep, .keep, .keep, .keep, .keep, (.own 1 22), (.own 2 3)])] [[(.own 2 3), (.own 1 22), (.ptr 0 0 91 [.keep, .keep, .keep, .keep, .keep, (.own 1 22), (.own 2 3)])]] (by kernel_rfl) [] 4000 L53_0 (by kernel_rfl)
    (fun _ h => nomatch h) (fun v _ h => ⟨0, (e53_0 _ v).trans h⟩) (fun _ => by kernel_rfl) (fun _ => by kernel_rfl) (fun _ _ => by kernel_rfl)
/- (*chicane/fx.M).bound -/
abbrev A65_0 : Type := Bool × Bool
abbrev R65_0 : Type := Int × Bool
def v65_0 : Pk G (Bool × Bool) := (pk (Sh.snd (Sh.cons (Sh.ptr 0 0) (Sh.fst (Sh.cons Sh.bool Sh.nil)))) (Sh.fst (Sh.hfix 0 50 (Sh.fst (Sh.cons Sh.bool Sh.nil)) Sh.hnil)))
def w65_0 : Wk G (Int × Bool) := (Wk.one [.keep] (pk (Sh.fst (Sh.cons (Sh.int .i64) Sh.nil)) (Sh.fst (Sh.hfix 0 50 (Sh.fst (Sh.cons Sh.bool Sh.nil)) Sh.hnil))))
def F65_0 (v : Bool × Bool) : Option (Int × Bool) :=
  bif v.1 then
    some ((-9223372036854775808 : Int), true)
  else
    some ((9223372036854775807 : Int), true)

noncomputable def k65_0 : List (Known Try.prog E) := []
noncomputable def L65_0 (n id : Nat) (st : St G) : Option (Int × Bool) := none
set_option maxRecDepth 100000 in
theorem e65_0 (n : Nat) (v : Bool × Bool) : ev Try.prog E (oracle k65_0) Try.f65.ntmps (fun x => mem x []) (L65_0 n) (finF Try.prog E Try.f65.results.toList [[(.ptr 0 0 50 [.keep])]] w65_0.alts) 4000 [.code (Try.f65.body.getD .skip)] (argSt (v65_0.enc v)) = F65_0 v := by kernel_rfl
theorem ok65_0 : FnOk Try.prog E 65 v65_0.enc F65_0 w65_0.enc :=
  fn_known (fn := Try.f65) (c := (Try.f65.body.getD .skip)) Try.func65 (by kernel_rfl) rfl envOk (oracle_ok k65_0) mixed v65_0 F65_0 w65_0 [(.ptr 0 0 50 [.keep])] [[(.ptr 0 0 50 [.keep])]] (by kernel_rfl) [] 4000 L65_0 (by kernel_rfl)
    (fun _ h => nomatch h) (fun v _ h => ⟨0, (e65_0 _ v).trans h⟩) (fun _ => by kernel_rfl) (fun _ => by kernel_rfl) (fun _ _ => by kernel_rfl)
/- (*chicane/fx.M).nought -/
abbrev A82_0 : Type := Int × Bool
abbrev R82_0 : Type := Int × Bool
def v82_0 : Pk G (Int × Bool) := (pk (Sh.snd (Sh.cons (Sh.ptr 0 0) (Sh.fst (Sh.cons (Sh.int .i64) Sh.nil)))) (Sh.fst (Sh.hfix 0 50 (Sh.fst (Sh.cons Sh.bool Sh.nil)) Sh.hnil)))
def w82_0 : Wk G (Int × Bool) := (Wk.one [.keep] (pk (Sh.fst (Sh.cons (Sh.int .i64) Sh.nil)) (Sh.fst (Sh.hfix 0 50 (Sh.fst (Sh.cons Sh.bool Sh.nil)) Sh.hnil))))
def F82_0 (v : Int × Bool) : Option (Int × Bool) :=
  (F65_0 ((decide (v.1 < (0 : Int))), v.2)).bind fun r263 =>
  bif (v.1 == (0 : Int)) then
    some ((0 : Int), r263.2)
  else
    some (r263)

noncomputable def k82_0 : List (Known Try.prog E) := [Known.of envOk [5, 2] [(.ptr 0 0 50 [.keep]), .keep] v65_0 F65_0 w65_0 ok65_0]
noncomputable def L82_0 (n id : Nat) (st : St G) : Option (Int × Bool) := none
set_option maxRecDepth 100000 in
theorem e82_0 (n : Nat) (v : Int × Bool) : ev Try.prog E (oracle k82_0) Try.f82.ntmps (fun x => mem x []) (L82_0 n) (finF Try.prog E Try.f82.results.toList [[(.ptr 0 0 50 [.keep])]] w82_0.alts) 4000 [.code (Try.f82.body.getD .skip)] (argSt (v82_0.enc v)) = F82_0 v := by kernel_rfl
theorem ok82_0 : FnOk Try.prog E 82 v82_0.enc F82_0 w82_0.enc :=
  fn_known (fn := Try.f82) (c := (Try.f82.body.getD .skip)) Try.func82 (by kernel_rfl) rfl envOk (oracle_ok k82_0) mixed v82_0 F82_0 w82_0 [(.ptr 0 0 50 [.keep])] [[(.ptr 0 0 50 [.keep])]] (by kernel_rfl) [] 4000 L82_0 (by kernel_rfl)
    (fun _ h => nomatch h) (fun v _ h => ⟨0, (e82_0 _ v).trans h⟩) (fun _ => by kernel_rfl) (fun _ => by kernel_rfl) (fun _ _ => by kernel_rfl)
/- math/bits.Sub64 -/
abbrev A92_x : Type := Int × Int × Int
abbrev R92_x : Type := Int × Int
def v92_x : Pk G (Int × Int × Int) := p3u
def w92_x : Wk G (Int × Int) := Wk.one [.keep, .keep] p2u
def F92_x (v : Int × Int × Int) : Option (Int × Int) := sub64F v
theorem ok92_x : FnOk Try.prog E 92 v92_x.enc F92_x w92_x.enc := sub64_known Try.func92 (by kernel_rfl) (by kernel_rfl) (by kernel_rfl) (by kernel_rfl)
/- chicane/wide.sized -/
abbrev A99_0 : Type := Int × Int
abbrev R99_0 : Type := (Int × Int) × Bool
def v99_0 : Pk G (Int × Int) := (Pk.fst (pk (Sh.fst (Sh.cons (Sh.agg (Sh.cons (Sh.int .i64) (Sh.fst (Sh.cons (Sh.int .u64) Sh.nil)))) Sh.nil)) Sh.hnil))
def w99_0 : Wk G ((Int × Int) × Bool) := (Wk.one [(.agg [.keep, .keep]), .keep] (Pk.fst (pk (Sh.cons (Sh.agg (Sh.cons (Sh.int .u64) (Sh.fst (Sh.cons (Sh.int .u64) Sh.nil)))) (Sh.fst (Sh.cons Sh.bool Sh.nil))) Sh.hnil)))
def F99_0 (v : Int × Int) : Option ((Int × Int) × Bool) :=
  bif (decide (v.1 ≥ (0 : Int))) then
    let x276 : Int := (IntKind.wrap .u64 v.1)
    some ((x276, v.2), false)
  else
    (F92_x ((0 : Int), (v.2, (0 : Int)))).bind fun r277 =>
    let x278 : Int := (IntKind.wrap .u64 v.1)
    (F92_x ((0 : Int), (x278, r277.2))).bind fun r279 =>
    some ((r279.1, r277.1), true)

noncomputable def k99_0 : List (Known Try.prog E) := [Known.of envOk [1, 1, 1] [.keep, .keep, .keep] v92_x F92_x w92_x ok92_x]
noncomputable def L99_0 (n id : Nat) (st : St G) : Option ((Int × Int) × Bool) := none
set_option maxRecDepth 100000 in
theorem e99_0 (n : Nat) (v : Int × Int) : ev Try.prog E (oracle k99_0) Try.f99.ntmps (fun x => mem x []) (L99_0 n) (finF Try.prog E Try.f99.results.toList [[]] w99_0.alts) 4000 [.code (Try.f99.body.getD .skip)] (argSt (v99_0.enc v)) = F99_0 v := by kernel_rfl
theorem ok99_0 : FnOk Try.prog E 99 v99_0.enc F99_0 w99_0.enc :=
  fn_known (fn := Try.f99) (c := (Try.f99.body.getD .skip)) Try.func99 (by kernel_rfl) rfl envOk (oracle_ok k99_0) mixed v99_0 F99_0 w99_0 [] [[]] (by kernel_rfl) [] 4000 L99_0 (by kernel_rfl)
    (fun _ h => nomatch h) (fun v _ h => ⟨0, (e99_0 _ v).trans h⟩) (fun _ => by kernel_rfl) (fun _ => by kernel_rfl) (fun _ _ => by kernel_rfl)
/- math/bits.Len64 -/
abbrev A109_0 : Type := Int
abbrev R109_0 : Type := Int
def v109_0 : Pk G Int := (Pk.fst (pk (Sh.fst (Sh.cons (Sh.int .u64) Sh.nil)) Sh.hnil))
def w109_0 : Wk G Int := (Wk.one [.keep] (Pk.fst (pk (Sh.fst (Sh.cons (Sh.int .i64) Sh.nil)) Sh.hnil)))
def F109_0 (v : Int) : Option Int :=
  bif (decide (v ≥ (4294967296 : Int))) then
    let x363 : Int := (Int.fdiv v (2 ^ 32))
    bif (decide (x363 ≥ (65536 : Int))) then
      let x364 : Int := (Int.fdiv x363 (2 ^ 16))
      bif (decide (x364 ≥ (256 : Int))) then
        let x365 : Int := (Int.fdiv x364 (2 ^ 8))
        let x366 : Int := (IntKind.wrap .u8 x365)
        (rdb sc0 x366).bind fun (x367 : UInt8) =>
        let x368 : Int := (IntKind.wrap .i64 (x367.toNat : Int))
        let x369 : Int := (IntKind.wrap .i64 ((56 : Int) + x368))
        some (x369)
      else
        let x370 : Int := (IntKind.wrap .u8 x364)
        (rdb sc0 x370).bind fun (x371 : UInt8) =>
        let x372 : Int := (IntKind.wrap .i64 (x371.toNat : Int))
        let x373 : Int := (IntKind.wrap .i64 ((48 : Int) + x372))
        some (x373)
    else
      bif (decide (x363 ≥ (256 : Int))) then
        let x374 : Int := (Int.fdiv x363 (2 ^ 8))
        let x375 : Int := (IntKind.wrap .u8 x374)
        (rdb sc0 x375).bind fun (x376 : UInt8) =>
        let x377 : Int := (IntKind.wrap .i64 (x376.toNat : Int))
        let x378 : Int := (IntKind.wrap .i64 ((40 : Int) + x377))
        some (x378)
      else
        let x379 : Int := (IntKind.wrap .u8 x363)
        (rdb sc0 x379).bind fun (x380 : UInt8) =>
        let x381 : Int := (IntKind.wrap .i64 (x380.toNat : Int))
        let x382 : Int := (IntKind.wrap .i64 ((32 : Int) + x381))
        some (x382)
  else
    bif (decide (v ≥ (65536 : Int))) then
      let x383 : Int := (Int.fdiv v (2 ^ 16))
      bif (decide (x383 ≥ (256 : Int))) then
        let x384 : Int := (Int.fdiv x383 (2 ^ 8))
        let x385 : Int := (IntKind.wrap .u8 x384)
        (rdb sc0 x385).bind fun (x386 : UInt8) =>
        let x387 : Int := (IntKind.wrap .i64 (x386.toNat : Int))
        let x388 : Int := (IntKind.wrap .i64 ((24 : Int) + x387))
        some (x388)
      else
        let x389 : Int := (IntKind.wrap .u8 x383)
        (rdb sc0 x389).bind fun (x390 : UInt8) =>
        let x391 : Int := (IntKind.wrap .i64 (x390.toNat : Int))
        let x392 : Int := (IntKind.wrap .i64 ((16 : Int) + x391))
        some (x392)
    else
      bif (decide (v ≥ (256 : Int))) then
        let x393 : Int := (Int.fdiv v (2 ^ 8))
        let x394 : Int := (IntKind.wrap .u8 x393)
        (rdb sc0 x394).bind fun (x395 : UInt8) =>
        let x396 : Int := (IntKind.wrap .i64 (x395.toNat : Int))
        let x397 : Int := (IntKind.wrap .i64 ((8 : Int) + x396))
        some (x397)
      else
        let x398 : Int := (IntKind.wrap .u8 v)
        (rdb sc0 x398).bind fun (x399 : UInt8) =>
        let x400 : Int := (IntKind.wrap .i64 (x399.toNat : Int))
        let x401 : Int := (IntKind.wrap .i64 ((0 : Int) + x400))
        some (x401)

noncomputable def k109_0 : List (Known Try.prog E) := []
noncomputable def L109_0 (n id : Nat) (st : St G) : Option Int := none
set_option maxRecDepth 100000 in
theorem e109_0 (n : Nat) (v : Int) : ev Try.prog E (oracle k109_0) Try.f109.ntmps (fun x => mem x []) (L109_0 n) (finF Try.prog E Try.f109.results.toList [[]] w109_0.alts) 4000 [.code (Try.f109.body.getD .skip)] (argSt (v109_0.enc v)) = F109_0 v := by kernel_rfl
theorem ok109_0 : FnOk Try.prog E 109 v109_0.enc F109_0 w109_0.enc :=
  fn_known (fn := Try.f109) (c := (Try.f109.body.getD .skip)) Try.func109 (by kernel_rfl) rfl envOk (oracle_ok k109_0) mixed v109_0 F109_0 w109_0 [] [[]] (by kernel_rfl) [] 4000 L109_0 (by kernel_rfl)
    (fun _ h => nomatch h) (fun v _ h => ⟨0, (e109_0 _ v).trans h⟩) (fun _ => by kernel_rfl) (fun _ => by kernel_rfl) (fun _ _ => by kernel_rfl)
/- math/bits.LeadingZeros64 -/
abbrev A106_0 : Type := Int
abbrev R106_0 : Type := Int
def v106_0 : Pk G Int := (Pk.fst (pk (Sh.fst (Sh.cons (Sh.int .u64) Sh.nil)) Sh.hnil))
def w106_0 : Wk G Int := (Wk.one [.keep] (Pk.fst (pk (Sh.fst (Sh.cons (Sh.int .i64) Sh.nil)) Sh.hnil)))
def F106_0 (v : Int) : Option Int :=
  (F109_0 v).bind fun r406 =>
  let x407 : Int := (IntKind.wrap .i64 ((64 : Int) - r406))
  some (x407)

noncomputable def k106_0 : List (Known Try.prog E) := [Known.of envOk [1] [.keep] v109_0 F109_0 w109_0 ok109_0]
noncomputable def L106_0 (n id : Nat) (st : St G) : Option Int := none
set_option maxRecDepth 100000 in
theorem e106_0 (n : Nat) (v : Int) : ev Try.prog E (oracle k106_0) Try.f106.ntmps (fun x => mem x []) (L106_0 n) (finF Try.prog E Try.f106.results.toList [[]] w106_0.alts) 4000 [.code (Try.f106.body.getD .skip)] (argSt (v106_0.enc v)) = F106_0 v := by kernel_rfl
theorem ok106_0 : FnOk Try.prog E 106 v106_0.enc F106_0 w106_0.enc :=
  fn_known (fn := Try.f106) (c := (Try.f106.body.getD .skip)) Try.func106 (by kernel_rfl) rfl envOk (oracle_ok k106_0) mixed v106_0 F106_0 w106_0 [] [[]] (by kernel_rfl) [] 4000 L106_0 (by kernel_rfl)
    (fun _ h => nomatch h) (fun v _ h => ⟨0, (e106_0 _ v).trans h⟩) (fun _ => by kernel_rfl) (fun _ => by kernel_rfl) (fun _ _ => by kernel_rfl)
/- math/bits.Div64 -/
abbrev A100_0 : Type := Int × Int × Int
abbrev R100_0 : Type := Int × Int
def v100_0 : Pk G (Int × Int × Int) := (Pk.fst (pk (Sh.cons (Sh.int .u64) (Sh.cons (Sh.int .u64) (Sh.fst (Sh.cons (Sh.int .u64) Sh.nil)))) Sh.hnil))
def w100_0 : Wk G (Int × Int) := (Wk.one [.keep, .keep] (Pk.fst (pk (Sh.cons (Sh.int .u64) (Sh.fst (Sh.cons (Sh.int .u64) Sh.nil))) Sh.hnil)))
def c100_0_17 : Pk G (Int × Int × Int × Int × Int × Int × Int × Int × Int) := (Pk.fst (pk (Sh.cons (Sh.int .u64) (Sh.cons (Sh.int .u64) (Sh.cons (Sh.int .u64) (Sh.cons (Sh.int .u64) (Sh.cons (Sh.int .u64) (Sh.cons (Sh.int .u64) (Sh.cons (Sh.int .u64) (Sh.cons (Sh.int .u64) (Sh.fst (Sh.cons (Sh.int .u64) Sh.nil)))))))))) Sh.hnil))
def c100_0_24 : Pk G (Int × Int × Int × Int × Int × Int × Int × Int × Int) := (Pk.fst (pk (Sh.cons (Sh.int .u64) (Sh.cons (Sh.int .u64) (Sh.cons (Sh.int .u64) (Sh.cons (Sh.int .u64) (Sh.cons (Sh.int .u64) (Sh.cons (Sh.int .u64) (Sh.cons (Sh.int .u64) (Sh.cons (Sh.int .u64) (Sh.fst (Sh.cons (Sh.int .u64) Sh.nil)))))))))) Sh.hnil))
def B100_0_17 (K : ((Int × Int × Int × Int × Int × Int × Int × Int × Int) → Option (Int × Int)) × ((Int × Int × Int × Int × Int × Int × Int × Int × Int) → Option (Int × Int))) (v : Int × Int × Int × Int × Int × Int × Int × Int × Int) : Option (Int × Int) :=
  bif (decide (v.2.2.2.2.2.2.2.1 ≥ (4294967296 : Int))) then
    let x702 : Int := (IntKind.wrap .u64 (v.2.2.2.2.2.2.2.1 - (1 : Int)))
    let x703 : Int := (IntKind.wrap .u64 (v.2.2.2.2.2.2.2.2 + v.2.2.1))
    bif (decide (x703 ≥ (4294967296 : Int))) then
      let x704 : Int := (IntKind.wrap .u64 (v.2.2.2.2.1 * (4294967296 : Int)))
      let x705 : Int := (IntKind.wrap .u64 (x704 + v.2.2.2.2.2.1))
      let x706 : Int := (IntKind.wrap .u64 (x702 * v.1))
      let x707 : Int := (IntKind.wrap .u64 (x705 - x706))
      (chk (v.2.2.1 != 0)).bind fun _ =>
      let x708 : Int := (IntKind.wrap .u64 (Int.tdiv x707 v.2.2.1))
      let x709 : Int := (IntKind.wrap .u64 (x708 * v.2.2.1))
      let x710 : Int := (IntKind.wrap .u64 (x707 - x709))
      K.2 (v.1, (v.2.1, (v.2.2.1, (v.2.2.2.1, (v.2.2.2.2.2.2.1, (x702, (x710, (x707, x708))))))))
    else
      K.1 (v.1, (v.2.1, (v.2.2.1, (v.2.2.2.1, (v.2.2.2.2.1, (v.2.2.2.2.2.1, (v.2.2.2.2.2.2.1, (x702, x703))))))))
  else
    let x711 : Int := (IntKind.wrap .u64 (v.2.2.2.2.2.2.2.1 * v.2.2.2.1))
    let x712 : Int := (IntKind.wrap .u64 ((4294967296 : Int) * v.2.2.2.2.2.2.2.2))
    let x713 : Int := (IntKind.wrap .u64 (x712 + v.2.2.2.2.2.1))
    bif (decide (x711 > x713)) then
      let x714 : Int := (IntKind.wrap .u64 (v.2.2.2.2.2.2.2.1 - (1 : Int)))
      let x715 : Int := (IntKind.wrap .u64 (v.2.2.2.2.2.2.2.2 + v.2.2.1))
      bif (decide (x715 ≥ (4294967296 : Int))) then
        let x716 : Int := (IntKind.wrap .u64 (v.2.2.2.2.1 * (4294967296 : Int)))
        let x717 : Int := (IntKind.wrap .u64 (x716 + v.2.2.2.2.2.1))
        let x718 : Int := (IntKind.wrap .u64 (x714 * v.1))
        let x719 : Int := (IntKind.wrap .u64 (x717 - x718))
        (chk (v.2.2.1 != 0)).bind fun _ =>
        let x720 : Int := (IntKind.wrap .u64 (Int.tdiv x719 v.2.2.1))
        let x721 : Int := (IntKind.wrap .u64 (x720 * v.2.2.1))
        let x722 : Int := (IntKind.wrap .u64 (x719 - x721))
        K.2 (v.1, (v.2.1, (v.2.2.1, (v.2.2.2.1, (v.2.2.2.2.2.2.1, (x714, (x722, (x719, x720))))))))
      else
        K.1 (v.1, (v.2.1, (v.2.2.1, (v.2.2.2.1, (v.2.2.2.2.1, (v.2.2.2.2.2.1, (v.2.2.2.2.2.2.1, (x714, x715))))))))
    else
      let x723 : Int := (IntKind.wrap .u64 (v.2.2.2.2.1 * (4294967296 : Int)))
      let x724 : Int := (IntKind.wrap .u64 (x723 + v.2.2.2.2.2.1))
      let x725 : Int := (IntKind.wrap .u64 (v.2.2.2.2.2.2.2.1 * v.1))
      let x726 : Int := (IntKind.wrap .u64 (x724 - x725))
      (chk (v.2.2.1 != 0)).bind fun _ =>
      let x727 : Int := (IntKind.wrap .u64 (Int.tdiv x726 v.2.2.1))
      let x728 : Int := (IntKind.wrap .u64 (x727 * v.2.2.1))
      let x729 : Int := (IntKind.wrap .u64 (x726 - x728))
      K.2 (v.1, (v.2.1, (v.2.2.1, (v.2.2.2.1, (v.2.2.2.2.2.2.1, (v.2.2.2.2.2.2.2.1, (x729, (x726, x727))))))))

def B100_0_24 (K : ((Int × Int × Int × Int × Int × Int × Int × Int × Int) → Option (Int × Int)) × ((Int × Int × Int × Int × Int × Int × Int × Int × Int) → Option (Int × Int))) (v : Int × Int × Int × Int × Int × Int × Int × Int × Int) : Option (Int × Int) :=
  bif (decide (v.2.2.2.2.2.2.2.2 ≥ (4294967296 : Int))) then
    let x730 : Int := (IntKind.wrap .u64 (v.2.2.2.2.2.2.2.2 - (1 : Int)))
    let x731 : Int := (IntKind.wrap .u64 (v.2.2.2.2.2.2.1 + v.2.2.1))
    bif (decide (x731 ≥ (4294967296 : Int))) then
      let x732 : Int := (IntKind.wrap .u64 (v.2.2.2.2.2.1 * (4294967296 : Int)))
      let x733 : Int := (IntKind.wrap .u64 (x732 + x730))
      let x734 : Int := (IntKind.wrap .u64 (v.2.2.2.2.2.2.2.1 * (4294967296 : Int)))
      let x735 : Int := (IntKind.wrap .u64 (x734 + v.2.2.2.2.1))
      let x736 : Int := (IntKind.wrap .u64 (x730 * v.1))
      let x737 : Int := (IntKind.wrap .u64 (x735 - x736))
      (chk (decide (0 ≤ v.2.1))).bind fun _ =>
      let x738 : Int := (Int.fdiv x737 (2 ^ min (v.2.1).toNat 64))
      some (x733, x738)
    else
      K.2 (v.1, (v.2.1, (v.2.2.1, (v.2.2.2.1, (v.2.2.2.2.1, (v.2.2.2.2.2.1, (x731, (v.2.2.2.2.2.2.2.1, x730))))))))
  else
    let x739 : Int := (IntKind.wrap .u64 (v.2.2.2.2.2.2.2.2 * v.2.2.2.1))
    let x740 : Int := (IntKind.wrap .u64 ((4294967296 : Int) * v.2.2.2.2.2.2.1))
    let x741 : Int := (IntKind.wrap .u64 (x740 + v.2.2.2.2.1))
    bif (decide (x739 > x741)) then
      let x742 : Int := (IntKind.wrap .u64 (v.2.2.2.2.2.2.2.2 - (1 : Int)))
      let x743 : Int := (IntKind.wrap .u64 (v.2.2.2.2.2.2.1 + v.2.2.1))
      bif (decide (x743 ≥ (4294967296 : Int))) then
        let x744 : Int := (IntKind.wrap .u64 (v.2.2.2.2.2.1 * (4294967296 : Int)))
        let x745 : Int := (IntKind.wrap .u64 (x744 + x742))
        let x746 : Int := (IntKind.wrap .u64 (v.2.2.2.2.2.2.2.1 * (4294967296 : Int)))
        let x747 : Int := (IntKind.wrap .u64 (x746 + v.2.2.2.2.1))
        let x748 : Int := (IntKind.wrap .u64 (x742 * v.1))
        let x749 : Int := (IntKind.wrap .u64 (x747 - x748))
        (chk (decide (0 ≤ v.2.1))).bind fun _ =>
        let x750 : Int := (Int.fdiv x749 (2 ^ min (v.2.1).toNat 64))
        some (x745, x750)
      else
        K.2 (v.1, (v.2.1, (v.2.2.1, (v.2.2.2.1, (v.2.2.2.2.1, (v.2.2.2.2.2.1, (x743, (v.2.2.2.2.2.2.2.1, x742))))))))
    else
      let x751 : Int := (IntKind.wrap .u64 (v.2.2.2.2.2.1 * (4294967296 : Int)))
      let x752 : Int := (IntKind.wrap .u64 (x751 + v.2.2.2.2.2.2.2.2))
      let x753 : Int := (IntKind.wrap .u64 (v.2.2.2.2.2.2.2.1 * (4294967296 : Int)))
      let x754 : Int := (IntKind.wrap .u64 (x753 + v.2.2.2.2.1))
      let x755 : Int := (IntKind.wrap .u64 (v.2.2.2.2.2.2.2.2 * v.1))
      let x756 : Int := (IntKind.wrap .u64 (x754 - x755))
      (chk (decide (0 ≤ v.2.1))).bind fun _ =>
      let x757 : Int := (Int.fdiv x756 (2 ^ min (v.2.1).toNat 64))
      some (x752, x757)

def E100_0 (K : ((Int × Int × Int × Int × Int × Int × Int × Int × Int) → Option (Int × Int)) × ((Int × Int × Int × Int × Int × Int × Int × Int × Int) → Option (Int × Int))) (v : Int × Int × Int) : Option (Int × Int) :=
  bif (v.2.2 == (0 : Int)) then
    none
  else
    bif (decide (v.2.2 ≤ v.1)) then
      none
    else
      bif (v.1 == (0 : Int)) then
        (chk (v.2.2 != 0)).bind fun _ =>
        let x685 : Int := (IntKind.wrap .u64 (Int.tdiv v.2.1 v.2.2))
        (chk (v.2.2 != 0)).bind fun _ =>
        let x686 : Int := (Int.tmod v.2.1 v.2.2)
        some (x685, x686)
      else
        (F106_0 v.2.2).bind fun r687 =>
        let x688 : Int := (IntKind.wrap .u64 r687)
        (chk (decide (0 ≤ x688))).bind fun _ =>
        let x689 : Int := (IntKind.wrap .u64 (v.2.2 * 2 ^ min (x688).toNat 64))
        let x690 : Int := (Int.fdiv x689 (2 ^ 32))
        let x691 : Int := (Go.bits .and .u64 x689 (4294967295 : Int))
        (chk (decide (0 ≤ x688))).bind fun _ =>
        let x692 : Int := (IntKind.wrap .u64 (v.1 * 2 ^ min (x688).toNat 64))
        let x693 : Int := (IntKind.wrap .u64 ((64 : Int) - x688))
        (chk (decide (0 ≤ x693))).bind fun _ =>
        let x694 : Int := (Int.fdiv v.2.1 (2 ^ min (x693).toNat 64))
        let x695 : Int := (Go.bits .or .u64 x692 x694)
        (chk (decide (0 ≤ x688))).bind fun _ =>
        let x696 : Int := (IntKind.wrap .u64 (v.2.1 * 2 ^ min (x688).toNat 64))
        let x697 : Int := (Int.fdiv x696 (2 ^ 32))
        let x698 : Int := (Go.bits .and .u64 x696 (4294967295 : Int))
        (chk (x690 != 0)).bind fun _ =>
        let x699 : Int := (IntKind.wrap .u64 (Int.tdiv x695 x690))
        let x700 : Int := (IntKind.wrap .u64 (x699 * x690))
        let x701 : Int := (IntKind.wrap .u64 (x695 - x700))
        K.1 (x689, (x688, (x690, (x691, (x695, (x697, (x698, (x699, x701))))))))

def K100_0 : Nat → ((Int × Int × Int × Int × Int × Int × Int × Int × Int) → Option (Int × Int)) × ((Int × Int × Int × Int × Int × Int × Int × Int × Int) → Option (Int × Int))
  | 0 => (fun _ => none, fun _ => none)
  | n + 1 => (B100_0_17 (K100_0 n), B100_0_24 (K100_0 n))
def fuel100_0 (v : Int × Int × Int) : Nat := 1000
def F100_0 (v : Int × Int × Int) : Option (Int × Int) := E100_0 (K100_0 (fuel100_0 v)) v
noncomputable def k100_0 : List (Known Try.prog E) := [Known.of envOk [1] [.keep] v106_0 F106_0 w106_0 ok106_0]
def s100_0_24 : List (Nat × Pat) := [(2, .keep), (8, .keep), (9, .keep), (10, .keep), (14, .keep), (15, .keep), (16, .keep), (17, .keep), (18, .keep)]
def s100_0_17 : List (Nat × Pat) := [(2, .keep), (8, .keep), (9, .keep), (10, .keep), (11, .keep), (13, .keep), (14, .keep), (15, .keep), (16, .keep)]
noncomputable def L100_0 (n id : Nat) (st : St G) : Option (Int × Int) := match Nat.beq id 17 with | true => cutK Try.prog s100_0_17 [] c100_0_17.dec (K100_0 n).1 st | false => match Nat.beq id 24 with | true => cutK Try.prog s100_0_24 [] c100_0_24.dec (K100_0 n).2 st | false => none
set_option maxRecDepth 100000 in
theorem e100_0 (n : Nat) (v : Int × Int × Int) : ev Try.prog E (oracle k100_0) Try.f100.ntmps (fun x => mem x [17, 24]) (L100_0 n) (finF Try.prog E Try.f100.results.toList [[]] w100_0.alts) 4000 [.code (Try.f100.body.getD .skip)] (argSt (v100_0.enc v)) = E100_0 (K100_0 n) v := by kernel_rfl
set_option maxRecDepth 100000 in
theorem b100_0_17 (n : Nat) (v : Int × Int × Int × Int × Int × Int × Int × Int × Int) : evCut Try.prog E (oracle k100_0) false 100 Try.f100.ntmps (fun x => mem x [17, 24]) (L100_0 n) (finF Try.prog E Try.f100.results.toList [[]] w100_0.alts) 4000 (todoAt (Try.f100.body.getD .skip) 17) (cutSt s100_0_17 (c100_0_17.enc v)) = B100_0_17 (K100_0 n) v := by kernel_rfl
set_option maxRecDepth 100000 in
theorem b100_0_24 (n : Nat) (v : Int × Int × Int × Int × Int × Int × Int × Int × Int) : evCut Try.prog E (oracle k100_0) false 100 Try.f100.ntmps (fun x => mem x [17, 24]) (L100_0 n) (finF Try.prog E Try.f100.results.toList [[]] w100_0.alts) 4000 (todoAt (Try.f100.body.getD .skip) 24) (cutSt s100_0_24 (c100_0_24.enc v)) = B100_0_24 (K100_0 n) v := by kernel_rfl
theorem ok100_0 : FnOk Try.prog E 100 v100_0.enc F100_0 w100_0.enc :=
  fn_known (fn := Try.f100) (c := (Try.f100.body.getD .skip)) Try.func100 (by kernel_rfl) rfl envOk (oracle_ok k100_0) mixed v100_0 F100_0 w100_0 [] [[]] (by kernel_rfl) [17, 24] 4000 L100_0 (by kernel_rfl)
    (List.forall_mem_cons.2 ⟨⟨_, [], s100_0_17, c100_0_17.dec, c100_0_17.enc, fun n => (K100_0 n).1, c100_0_17.ok, fun _ _ => rfl, fun _ => rfl, by kernel_rfl, fun n v _ h => (b100_0_17 n v).trans h⟩, List.forall_mem_cons.2 ⟨⟨_, [], s100_0_24, c100_0_24.dec, c100_0_24.enc, fun n => (K100_0 n).2, c100_0_24.ok, fun _ _ => rfl, fun _ => rfl, by kernel_rfl, fun n v _ h => (b100_0_24 n v).trans h⟩, fun _ h => (nomatch h)⟩⟩) (fun v _ h => ⟨fuel100_0 v, (e100_0 _ v).trans h⟩) (fun _ => by kernel_rfl) (fun _ => by kernel_rfl) (fun _ _ => by kernel_rfl)
/- chicane/wide.Div -/
abbrev A83_0 : Type := (Int × Int) × Int
abbrev R83_0 : Type := Int × Bool
def v83_0 : Pk G ((Int × Int) × Int) := (Pk.fst (pk (Sh.cons (Sh.agg (Sh.cons (Sh.int .i64) (Sh.fst (Sh.cons (Sh.int .u64) Sh.nil)))) (Sh.fst (Sh.cons (Sh.int .i64) Sh.nil))) Sh.hnil))
def w83_0 : Wk G (Int × Bool) := (Wk.one [.keep, .keep] (Pk.fst (pk (Sh.cons (Sh.int .i64) (Sh.fst (Sh.cons Sh.bool Sh.nil))) Sh.hnil)))
def F83_0 (v : (Int × Int) × Int) : Option (Int × Bool) :=
  (F99_0 v.1).bind fun r881 =>
  let x882 : Int := (IntKind.wrap .u64 v.2)
  bif (decide (v.2 < (0 : Int))) then
    let x883 : Int := (IntKind.wrap .u64 (0 - x882))
    bif (decide (r881.1.1 ≥ x883)) then
      some ((0 : Int), false)
    else
      (F100_0 (r881.1.1, (r881.1.2, x883))).bind fun r884 =>
      let x885 : Int := (IntKind.wrap .u64 (x883 - r884.2))
      bif (decide (r884.2 > x885)) then
        bif (decide (r884.2 > (0 : Int))) then
          let x886 : Int := (IntKind.wrap .u64 (r884.1 + (1 : Int)))
          bif (x886 == (0 : Int)) then
            some ((0 : Int), false)
          else
            bif (!r881.2) then
              bif (decide (x886 ≤ (9223372036854775808 : Int))) then
                let x887 : Int := (IntKind.wrap .u64 (0 - x886))
                let x888 : Int := (IntKind.wrap .i64 x887)
                some (x888, true)
              else
                bif (!(!r881.2)) then
                  bif (decide (x886 < (9223372036854775808 : Int))) then
                    let x889 : Int := (IntKind.wrap .i64 x886)
                    some (x889, true)
                  else
                    some ((0 : Int), false)
                else
                  some ((0 : Int), false)
            else
              bif (!(!r881.2)) then
                bif (decide (x886 < (9223372036854775808 : Int))) then
                  let x890 : Int := (IntKind.wrap .i64 x886)
                  some (x890, true)
                else
                  some ((0 : Int), false)
              else
                some ((0 : Int), false)
        else
          bif (!r881.2) then
            bif (decide (r884.1 ≤ (9223372036854775808 : Int))) then
              let x891 : Int := (IntKind.wrap .u64 (0 - r884.1))
              let x892 : Int := (IntKind.wrap .i64 x891)
              some (x892, true)
            else
              bif (!(!r881.2)) then
                bif (decide (r884.1 < (9223372036854775808 : Int))) then
                  let x893 : Int := (IntKind.wrap .i64 r884.1)
                  some (x893, true)
                else
                  some ((0 : Int), false)
              else
                some ((0 : Int), false)
          else
            bif (!(!r881.2)) then
              bif (decide (r884.1 < (9223372036854775808 : Int))) then
                let x894 : Int := (IntKind.wrap .i64 r884.1)
                some (x894, true)
              else
                some ((0 : Int), false)
            else
              some ((0 : Int), false)
      else
        let x895 : Int := (IntKind.wrap .u64 (x883 - r884.2))
        bif (r884.2 == x895) then
          let x896 : Int := (Go.bits .and .u64 r884.1 (1 : Int))
          bif (x896 == (1 : Int)) then
            bif (decide (r884.2 > (0 : Int))) then
              let x897 : Int := (IntKind.wrap .u64 (r884.1 + (1 : Int)))
              bif (x897 == (0 : Int)) then
                some ((0 : Int), false)
              else
                bif (!r881.2) then
                  bif (decide (x897 ≤ (9223372036854775808 : Int))) then
                    let x898 : Int := (IntKind.wrap .u64 (0 - x897))
                    let x899 : Int := (IntKind.wrap .i64 x898)
                    some (x899, true)
                  else
                    bif (!(!r881.2)) then
                      bif (decide (x897 < (9223372036854775808 : Int))) then
                        let x900 : Int := (IntKind.wrap .i64 x897)
                        some (x900, true)
                      else
                        some ((0 : Int), false)
                    else
                      some ((0 : Int), false)
                else
                  bif (!(!r881.2)) then
                    bif (decide (x897 < (9223372036854775808 : Int))) then
                      let x901 : Int := (IntKind.wrap .i64 x897)
                      some (x901, true)
                    else
                      some ((0 : Int), false)
                  else
                    some ((0 : Int), false)
            else
              bif (!r881.2) then
                bif (decide (r884.1 ≤ (9223372036854775808 : Int))) then
                  let x902 : Int := (IntKind.wrap .u64 (0 - r884.1))
                  let x903 : Int := (IntKind.wrap .i64 x902)
                  some (x903, true)
                else
                  bif (!(!r881.2)) then
                    bif (decide (r884.1 < (9223372036854775808 : Int))) then
                      let x904 : Int := (IntKind.wrap .i64 r884.1)
                      some (x904, true)
                    else
                      some ((0 : Int), false)
                  else
                    some ((0 : Int), false)
              else
                bif (!(!r881.2)) then
                  bif (decide (r884.1 < (9223372036854775808 : Int))) then
                    let x905 : Int := (IntKind.wrap .i64 r884.1)
                    some (x905, true)
                  else
                    some ((0 : Int), false)
                else
                  some ((0 : Int), false)
          else
            bif (!r881.2) then
              bif (decide (r884.1 ≤ (9223372036854775808 : Int))) then
                let x906 : Int := (IntKind.wrap .u64 (0 - r884.1))
                let x907 : Int := (IntKind.wrap .i64 x906)
                some (x907, true)
              else
                bif (!(!r881.2)) then
                  bif (decide (r884.1 < (9223372036854775808 : Int))) then
                    let x908 : Int := (IntKind.wrap .i64 r884.1)
                    some (x908, true)
                  else
                    some ((0 : Int), false)
                else
                  some ((0 : Int), false)
            else
              bif (!(!r881.2)) then
                bif (decide (r884.1 < (9223372036854775808 : Int))) then
                  let x909 : Int := (IntKind.wrap .i64 r884.1)
                  some (x909, true)
                else
                  some ((0 : Int), false)
              else
                some ((0 : Int), false)
        else
          bif (!r881.2) then
            bif (decide (r884.1 ≤ (9223372036854775808 : Int))) then
              let x910 : Int := (IntKind.wrap .u64 (0 - r884.1))
              let x911 : Int := (IntKind.wrap .i64 x910)
              some (x911, true)
            else
              bif (!(!r881.2)) then
                bif (decide (r884.1 < (9223372036854775808 : Int))) then
                  let x912 : Int := (IntKind.wrap .i64 r884.1)
                  some (x912, true)
                else
                  some ((0 : Int), false)
              else
                some ((0 : Int), false)
          else
            bif (!(!r881.2)) then
              bif (decide (r884.1 < (9223372036854775808 : Int))) then
                let x913 : Int := (IntKind.wrap .i64 r884.1)
                some (x913, true)
              else
                some ((0 : Int), false)
            else
              some ((0 : Int), false)
  else
    bif (decide (r881.1.1 ≥ x882)) then
      some ((0 : Int), false)
    else
      (F100_0 (r881.1.1, (r881.1.2, x882))).bind fun r914 =>
      let x915 : Int := (IntKind.wrap .u64 (x882 - r914.2))
      bif (decide (r914.2 > x915)) then
        bif (decide (r914.2 > (0 : Int))) then
          let x916 : Int := (IntKind.wrap .u64 (r914.1 + (1 : Int)))
          bif (x916 == (0 : Int)) then
            some ((0 : Int), false)
          else
            bif r881.2 then
              bif (decide (x916 ≤ (9223372036854775808 : Int))) then
                let x917 : Int := (IntKind.wrap .u64 (0 - x916))
                let x918 : Int := (IntKind.wrap .i64 x917)
                some (x918, true)
              else
                bif (!r881.2) then
                  bif (decide (x916 < (9223372036854775808 : Int))) then
                    let x919 : Int := (IntKind.wrap .i64 x916)
                    some (x919, true)
                  else
                    some ((0 : Int), false)
                else
                  some ((0 : Int), false)
            else
              bif (!r881.2) then
                bif (decide (x916 < (9223372036854775808 : Int))) then
                  let x920 : Int := (IntKind.wrap .i64 x916)
                  some (x920, true)
                else
                  some ((0 : Int), false)
              else
                some ((0 : Int), false)
        else
          bif r881.2 then
            bif (decide (r914.1 ≤ (9223372036854775808 : Int))) then
              let x921 : Int := (IntKind.wrap .u64 (0 - r914.1))
              let x922 : Int := (IntKind.wrap .i64 x921)
              some (x922, true)
            else
              bif (!r881.2) then
                bif (decide (r914.1 < (9223372036854775808 : Int))) then
                  let x923 : Int := (IntKind.wrap .i64 r914.1)
                  some (x923, true)
                else
                  some ((0 : Int), false)
              else
                some ((0 : Int), false)
          else
            bif (!r881.2) then
              bif (decide (r914.1 < (9223372036854775808 : Int))) then
                let x924 : Int := (IntKind.wrap .i64 r914.1)
                some (x924, true)
              else
                some ((0 : Int), false)
            else
              some ((0 : Int), false)
      else
        let x925 : Int := (IntKind.wrap .u64 (x882 - r914.2))
        bif (r914.2 == x925) then
          let x926 : Int := (Go.bits .and .u64 r914.1 (1 : Int))
          bif (x926 == (1 : Int)) then
            bif (decide (r914.2 > (0 : Int))) then
              let x927 : Int := (IntKind.wrap .u64 (r914.1 + (1 : Int)))
              bif (x927 == (0 : Int)) then
                some ((0 : Int), false)
              else
                bif r881.2 then
                  bif (decide (x927 ≤ (9223372036854775808 : Int))) then
                    let x928 : Int := (IntKind.wrap .u64 (0 - x927))
                    let x929 : Int := (IntKind.wrap .i64 x928)
                    some (x929, true)
                  else
                    bif (!r881.2) then
                      bif (decide (x927 < (9223372036854775808 : Int))) then
                        let x930 : Int := (IntKind.wrap .i64 x927)
                        some (x930, true)
                      else
                        some ((0 : Int), false)
                    else
                      some ((0 : Int), false)
                else
                  bif (!r881.2) then
                    bif (decide (x927 < (9223372036854775808 : Int))) then
                      let x931 : Int := (IntKind.wrap .i64 x927)
                      some (x931, true)
                    else
                      some ((0 : Int), false)
                  else
                    some ((0 : Int), false)
            else
              bif r881.2 then
                bif (decide (r914.1 ≤ (9223372036854775808 : Int))) then
                  let x932 : Int := (IntKind.wrap .u64 (0 - r914.1))
                  let x933 : Int := (IntKind.wrap .i64 x932)
                  some (x933, true)
                else
                  bif (!r881.2) then
                    bif (decide (r914.1 < (9223372036854775808 : Int))) then
                      let x934 : Int := (IntKind.wrap .i64 r914.1)
                      some (x934, true)
                    else
                      some ((0 : Int), false)
                  else
                    some ((0 : Int), false)
              else
                bif (!r881.2) then
                  bif (decide (r914.1 < (9223372036854775808 : Int))) then
                    let x935 : Int := (IntKind.wrap .i64 r914.1)
                    some (x935, true)
                  else
                    some ((0 : Int), false)
                else
                  some ((0 : Int), false)
          else
            bif r881.2 then
              bif (decide (r914.1 ≤ (9223372036854775808 : Int))) then
                let x936 : Int := (IntKind.wrap .u64 (0 - r914.1))
                let x937 : Int := (IntKind.wrap .i64 x936)
                some (x937, true)
              else
                bif (!r881.2) then
                  bif (decide (r914.1 < (9223372036854775808 : Int))) then
                    let x938 : Int := (IntKind.wrap .i64 r914.1)
                    some (x938, true)
                  else
                    some ((0 : Int), false)
                else
                  some ((0 : Int), false)
            else
              bif (!r881.2) then
                bif (decide (r914.1 < (9223372036854775808 : Int))) then
                  let x939 : Int := (IntKind.wrap .i64 r914.1)
                  some (x939, true)
                else
                  some ((0 : Int), false)
              else
                some ((0 : Int), false)
        else
          bif r881.2 then
            bif (decide (r914.1 ≤ (9223372036854775808 : Int))) then
              let x940 : Int := (IntKind.wrap .u64 (0 - r914.1))
              let x941 : Int := (IntKind.wrap .i64 x940)
              some (x941, true)
            else
              bif (!r881.2) then
                bif (decide (r914.1 < (9223372036854775808 : Int))) then
                  let x942 : Int := (IntKind.wrap .i64 r914.1)
                  some (x942, true)
                else
                  some ((0 : Int), false)
              else
                some ((0 : Int), false)
          else
            bif (!r881.2) then
              bif (decide (r914.1 < (9223372036854775808 : Int))) then
                let x943 : Int := (IntKind.wrap .i64 r914.1)
                some (x943, true)
              else
                some ((0 : Int), false)
            else
              some ((0 : Int), false)

noncomputable def k83_0 : List (Known Try.prog E) := [Known.of envOk [9] [(.agg [.keep, .keep])] v99_0 F99_0 w99_0 ok99_0, Known.of envOk [1, 1, 1] [.keep, .keep, .keep] v100_0 F100_0 w100_0 ok100_0]
noncomputable def L83_0 (n id : Nat) (st : St G) : Option (Int × Bool) := none
set_option maxRecDepth 100000 in
theorem e83_0 (n : Nat) (v : (Int × Int) × Int) : ev Try.prog E (oracle k83_0) Try.f83.ntmps (fun x => mem x []) (L83_0 n) (finF Try.prog E Try.f83.results.toList [[]] w83_0.alts) 4000 [.code (Try.f83.body.getD .skip)] (argSt (v83_0.enc v)) = F83_0 v := by kernel_rfl
theorem ok83_0 : FnOk Try.prog E 83 v83_0.enc F83_0 w83_0.enc :=
  fn_known (fn := Try.f83) (c := (Try.f83.body.getD .skip)) Try.func83 (by kernel_rfl) rfl envOk (oracle_ok k83_0) mixed v83_0 F83_0 w83_0 [] [[]] (by kernel_rfl) [] 4000 L83_0 (by kernel_rfl)
    (fun _ h => nomatch h) (fun v _ h => ⟨0, (e83_0 _ v).trans h⟩) (fun _ => by kernel_rfl) (fun _ => by kernel_rfl) (fun _ _ => by kernel_rfl)
/- (*chicane/fx.M).Div -/
abbrev A54_0 : Type := (Int × Int) × Bool
abbrev R54_0 : Type := Int × Bool
def v54_0 : Pk G ((Int × Int) × Bool) := (pk (Sh.snd (Sh.cons (Sh.ptr 0 0) (Sh.cons (Sh.int .i64) (Sh.fst (Sh.cons (Sh.int .i64) Sh.nil))))) (Sh.fst (Sh.hfix 0 50 (Sh.fst (Sh.cons Sh.bool Sh.nil)) Sh.hnil)))
def w54_0 : Wk G (Int × Bool) := (Wk.one [.keep] (pk (Sh.fst (Sh.cons (Sh.int .i64) Sh.nil)) (Sh.fst (Sh.hfix 0 50 (Sh.fst (Sh.cons Sh.bool Sh.nil)) Sh.hnil))))
def F54_0 (v : (Int × Int) × Bool) : Option (Int × Bool) :=
  bif (v.1.2 == (0 : Int)) then
    (F82_0 (v.1.1, v.2)).bind fun r952 =>
    some (r952)
  else
    let x953 : Int := (Int.fdiv v.1.1 (2 ^ 32))
    let x954 : Int := (IntKind.wrap .u64 v.1.1)
    let x955 : Int := (IntKind.wrap .u64 (x954 * 2 ^ 32))
    (F83_0 ((x953, x955), v.1.2)).bind fun r956 =>
    bif (!r956.2) then
      (F65_0 ((!((decide (v.1.1 < (0 : Int))) == (decide (v.1.2 < (0 : Int))))), v.2)).bind fun r957 =>
      some (r957)
    else
      some (r956.1, v.2)

noncomputable def k54_0 : List (Known Try.prog E) := [Known.of envOk [5, 1] [(.ptr 0 0 50 [.keep]), .keep] v82_0 F82_0 w82_0 ok82_0, Known.of envOk [9, 1] [(.agg [.keep, .keep]), .keep] v83_0 F83_0 w83_0 ok83_0, Known.of envOk [5, 2] [(.ptr 0 0 50 [.keep]), .keep] v65_0 F65_0 w65_0 ok65_0]
noncomputable def L54_0 (n id : Nat) (st : St G) : Option (Int × Bool) := none
set_option maxRecDepth 100000 in
theorem e54_0 (n : Nat) (v : (Int × Int) × Bool) : ev Try.prog E (oracle k54_0) Try.f54.ntmps (fun x => mem x []) (L54_0 n) (finF Try.prog E Try.f54.results.toList [[(.ptr 0 0 50 [.keep])]] w54_0.alts) 4000 [.code (Try.f54.body.getD .skip)] (argSt (v54_0.enc v)) = F54_0 v := by kernel_rfl
theorem ok54_0 : FnOk Try.prog E 54 v54_0.enc F54_0 w54_0.enc :=
  fn_known (fn := Try.f54) (c := (Try.f54.body.getD .skip)) Try.func54 (by kernel_rfl) rfl envOk (oracle_ok k54_0) mixed v54_0 F54_0 w54_0 [(.ptr 0 0 50 [.keep])] [[(.ptr 0 0 50 [.keep])]] (by kernel_rfl) [] 4000 L54_0 (by kernel_rfl)
    (fun _ h => nomatch h) (fun v _ h => ⟨0, (e54_0 _ v).trans h⟩) (fun _ => by kernel_rfl) (fun _ => by kernel_rfl) (fun _ _ => by kernel_rfl)
/- (*chicane/field.Field).Slopes -/
abbrev A19_0 : Type := (Int × Int × Bool) × Bool × (Int × Int × Int × Int × Int) × List Int × List Int
abbrev R19_0 : Type := (Int × Int) × Bool × (Int × Int × Int × Int × Int) × List Int × List Int
def v19_0 : Pk G ((Int × Int × Bool) × Bool × (Int × Int × Int × Int × Int) × List Int × List Int) := (pk (Sh.snd (Sh.cons (Sh.ptr 0 0) (Sh.snd (Sh.cons (Sh.ptr 3 0) (Sh.cons (Sh.int .i64) (Sh.cons (Sh.int .i64) (Sh.fst (Sh.cons Sh.bool Sh.nil)))))))) (Sh.hfix 3 50 (Sh.fst (Sh.cons Sh.bool Sh.nil)) (Sh.hfix 0 91 (Sh.cons (Sh.int .i64) (Sh.cons (Sh.int .i64) (Sh.cons (Sh.int .i64) (Sh.cons (Sh.int .i64) (Sh.fst (Sh.cons (Sh.int .i64) (Sh.snd (Sh.cons (Sh.osl 1) (Sh.snd (Sh.cons (Sh.osl 2) Sh.nil)))))))))) (Sh.hrow 2 3 (Sh.fst (Sh.hrow 1 22 Sh.hnil))))))
def w19_0 : Wk G ((Int × Int) × Bool × (Int × Int × Int × Int × Int) × List Int × List Int) := (Wk.one [.keep, .keep] (pk (Sh.cons (Sh.int .i64) (Sh.fst (Sh.cons (Sh.int .i64) Sh.nil))) (Sh.hfix 3 50 (Sh.fst (Sh.cons Sh.bool Sh.nil)) (Sh.hfix 0 91 (Sh.cons (Sh.int .i64) (Sh.cons (Sh.int .i64) (Sh.cons (Sh.int .i64) (Sh.cons (Sh.int .i64) (Sh.fst (Sh.cons (Sh.int .i64) (Sh.snd (Sh.cons (Sh.osl 1) (Sh.snd (Sh.cons (Sh.osl 2) Sh.nil)))))))))) (Sh.hrow 1 22 (Sh.fst (Sh.hrow 2 3 Sh.hnil)))))))
def F19_0 (v : (Int × Int × Bool) × Bool × (Int × Int × Int × Int × Int) × List Int × List Int) : Option ((Int × Int) × Bool × (Int × Int × Int × Int × Int) × List Int × List Int) :=
  (F53_0 ((v.1.1, v.1.2.1), v.2.2)).bind fun r1009 =>
  bif (!r1009.1.2) then
    some (((0 : Int), (0 : Int)), (v.2.1, r1009.2))
  else
    let x1010 : Int := (IntKind.wrap .i64 (r1009.1.1 + (2 : Int)))
    (cutn r1009.1.1 x1010 ((r1009.2.2.1).length : Int)).bind fun (x1011 : Nat × Nat) =>
    let x1012 : Int := (IntKind.wrap .i64 (r1009.1.1 + r1009.2.1.2.1))
    let x1013 : Int := (IntKind.wrap .i64 (x1012 + (1 : Int)))
    let x1014 : Int := (IntKind.wrap .i64 (r1009.1.1 + r1009.2.1.2.1))
    let x1015 : Int := (IntKind.wrap .i64 (x1014 + (3 : Int)))
    (cutn x1013 x1015 ((r1009.2.2.1).length : Int)).bind fun (x1016 : Nat × Nat) =>
    bif v.1.2.2 then
      (idx (1 : Int) x1016.2).bind fun (x1017 : Nat) =>
      ((r1009.2.2.1)[(x1016.1 + x1017)]?).bind fun (x1018 : Int) =>
      (idx (0 : Int) x1016.2).bind fun (x1019 : Nat) =>
      ((r1009.2.2.1)[(x1016.1 + x1019)]?).bind fun (x1020 : Int) =>
      let x1021 : Int := (IntKind.wrap .i64 (x1018 - x1020))
      (F54_0 ((x1021, r1009.2.1.1), v.2.1)).bind fun r1022 =>
      (idx (0 : Int) x1016.2).bind fun (x1023 : Nat) =>
      ((r1009.2.2.1)[(x1016.1 + x1023)]?).bind fun (x1024 : Int) =>
      (idx (0 : Int) x1011.2).bind fun (x1025 : Nat) =>
      ((r1009.2.2.1)[(x1011.1 + x1025)]?).bind fun (x1026 : Int) =>
      let x1027 : Int := (IntKind.wrap .i64 (x1024 - x1026))
      (F54_0 ((x1027, r1009.2.1.1), r1022.2)).bind fun r1028 =>
      some ((r1022.1, r1028.1), (r1028.2, r1009.2))
    else
      (idx (1 : Int) x1011.2).bind fun (x1029 : Nat) =>
      ((r1009.2.2.1)[(x1011.1 + x1029)]?).bind fun (x1030 : Int) =>
      (idx (0 : Int) x1011.2).bind fun (x1031 : Nat) =>
      ((r1009.2.2.1)[(x1011.1 + x1031)]?).bind fun (x1032 : Int) =>
      let x1033 : Int := (IntKind.wrap .i64 (x1030 - x1032))
      (F54_0 ((x1033, r1009.2.1.1), v.2.1)).bind fun r1034 =>
      (idx (1 : Int) x1016.2).bind fun (x1035 : Nat) =>
      ((r1009.2.2.1)[(x1016.1 + x1035)]?).bind fun (x1036 : Int) =>
      (idx (1 : Int) x1011.2).bind fun (x1037 : Nat) =>
      ((r1009.2.2.1)[(x1011.1 + x1037)]?).bind fun (x1038 : Int) =>
      let x1039 : Int := (IntKind.wrap .i64 (x1036 - x1038))
      (F54_0 ((x1039, r1009.2.1.1), r1034.2)).bind fun r1040 =>
      some ((r1034.1, r1040.1), (r1040.2, r1009.2))

noncomputable def k19_0 : List (Known Try.prog E) := [Known.of envOk [5, 1, 1] [(.ptr 0 0 91 [.keep, .keep, .keep, .keep, .keep, (.own 1 22), (.own 2 3)]), .keep, .keep] v53_0 F53_0 w53_0 ok53_0, Known.of envOk [5, 1, 1] [(.ptr 0 0 50 [.keep]), .keep, .keep] v54_0 F54_0 w54_0 ok54_0]
noncomputable def L19_0 (n id : Nat) (st : St G) : Option ((Int × Int) × Bool × (Int × Int × Int × Int × Int) × List Int × List Int) := none
set_option maxRecDepth 100000 in
theorem e19_0 (n : Nat) (v : (Int × Int × Bool) × Bool × (Int × Int × Int × Int × Int) × List Int × List Int) : ev Try.prog E (oracle k19_0) Try.f19.ntmps (fun x => mem x []) (L19_0 n) (finF Try.prog E Try.f19.results.toList [[(.own 2 3), (.own 1 22), (.ptr 0 0 91 [.keep, .keep, .keep, .keep, .keep, (.own 1 22), (.own 2 3)]), (.ptr 3 0 50 [.keep])]] w19_0.alts) 4000 [.code (Try.f19.body.getD .skip)] (argSt (v19_0.enc v)) = F19_0 v := by kernel_rfl
theorem ok19_0 : FnOk Try.prog E 19 v19_0.enc F19_0 w19_0.enc :=
  fn_known (fn := Try.f19) (c := (Try.f19.body.getD .skip)) Try.func19 (by kernel_rfl) rfl envOk (oracle_ok k19_0) mixed v19_0 F19_0 w19_0 [(.own 2 3), (.own 1 22), (.ptr 0 0 91 [.keep, .keep, .keep, .keep, .keep, (.own 1 22), (.own 2 3)]), (.ptr 3 0 50 [.keep])] [[(.own 2 3), (.own 1 22), (.ptr 0 0 91 [.keep, .keep, .keep, .keep, .keep, (.own 1 22), (.own 2 3)]), (.ptr 3 0 50 [.keep])]] (by kernel_rfl) [] 4000 L19_0 (by kernel_rfl)
    (fun _ h => nomatch h) (fun v _ h => ⟨0, (e19_0 _ v).trans h⟩) (fun _ => by kernel_rfl) (fun _ => by kernel_rfl) (fun _ _ => by kernel_rfl)
/- math/bits.Mul64 -/
abbrev A101_0 : Type := Int × Int
abbrev R101_0 : Type := Int × Int
def v101_0 : Pk G (Int × Int) := (Pk.fst (pk (Sh.cons (Sh.int .u64) (Sh.fst (Sh.cons (Sh.int .u64) Sh.nil))) Sh.hnil))
def w101_0 : Wk G (Int × Int) := (Wk.one [.keep, .keep] (Pk.fst (pk (Sh.cons (Sh.int .u64) (Sh.fst (Sh.cons (Sh.int .u64) Sh.nil))) Sh.hnil)))
def F101_0 (v : Int × Int) : Option (Int × Int) :=
  let x1082 : Int := (Go.bits .and .u64 v.1 (4294967295 : Int))
  let x1083 : Int := (Int.fdiv v.1 (2 ^ 32))
  let x1084 : Int := (Go.bits .and .u64 v.2 (4294967295 : Int))
  let x1085 : Int := (Int.fdiv v.2 (2 ^ 32))
  let x1086 : Int := (IntKind.wrap .u64 (x1082 * x1084))
  let x1087 : Int := (IntKind.wrap .u64 (x1083 * x1084))
  let x1088 : Int := (Int.fdiv x1086 (2 ^ 32))
  let x1089 : Int := (IntKind.wrap .u64 (x1087 + x1088))
  let x1090 : Int := (Go.bits .and .u64 x1089 (4294967295 : Int))
  let x1091 : Int := (Int.fdiv x1089 (2 ^ 32))
  let x1092 : Int := (IntKind.wrap .u64 (x1082 * x1085))
  let x1093 : Int := (IntKind.wrap .u64 (x1090 + x1092))
  let x1094 : Int := (IntKind.wrap .u64 (x1083 * x1085))
  let x1095 : Int := (IntKind.wrap .u64 (x1094 + x1091))
  let x1096 : Int := (Int.fdiv x1093 (2 ^ 32))
  let x1097 : Int := (IntKind.wrap .u64 (x1095 + x1096))
  let x1098 : Int := (IntKind.wrap .u64 (v.1 * v.2))
  some (x1097, x1098)

noncomputable def k101_0 : List (Known Try.prog E) := []
noncomputable def L101_0 (n id : Nat) (st : St G) : Option (Int × Int) := none
set_option maxRecDepth 100000 in
theorem e101_0 (n : Nat) (v : Int × Int) : ev Try.prog E (oracle k101_0) Try.f101.ntmps (fun x => mem x []) (L101_0 n) (finF Try.prog E Try.f101.results.toList [[]] w101_0.alts) 4000 [.code (Try.f101.body.getD .skip)] (argSt (v101_0.enc v)) = F101_0 v := by kernel_rfl
theorem ok101_0 : FnOk Try.prog E 101 v101_0.enc F101_0 w101_0.enc :=
  fn_known (fn := Try.f101) (c := (Try.f101.body.getD .skip)) Try.func101 (by kernel_rfl) rfl envOk (oracle_ok k101_0) mixed v101_0 F101_0 w101_0 [] [[]] (by kernel_rfl) [] 4000 L101_0 (by kernel_rfl)
    (fun _ h => nomatch h) (fun v _ h => ⟨0, (e101_0 _ v).trans h⟩) (fun _ => by kernel_rfl) (fun _ => by kernel_rfl) (fun _ _ => by kernel_rfl)
/- chicane/wide.Mul -/
abbrev A88_0 : Type := Int × Int
abbrev R88_0 : Type := Int × Int
def v88_0 : Pk G (Int × Int) := (Pk.fst (pk (Sh.cons (Sh.int .i64) (Sh.fst (Sh.cons (Sh.int .i64) Sh.nil))) Sh.hnil))
def w88_0 : Wk G (Int × Int) := (Wk.one [(.agg [.keep, .keep])] (Pk.fst (pk (Sh.fst (Sh.cons (Sh.agg (Sh.cons (Sh.int .i64) (Sh.fst (Sh.cons (Sh.int .u64) Sh.nil)))) Sh.nil)) Sh.hnil)))
def F88_0 (v : Int × Int) : Option (Int × Int) :=
  let x1123 : Int := (IntKind.wrap .u64 v.1)
  let x1124 : Int := (IntKind.wrap .u64 v.2)
  (F101_0 (x1123, x1124)).bind fun r1125 =>
  bif (decide (v.1 < (0 : Int))) then
    let x1126 : Int := (IntKind.wrap .u64 v.2)
    let x1127 : Int := (IntKind.wrap .u64 (r1125.1 - x1126))
    bif (decide (v.2 < (0 : Int))) then
      let x1128 : Int := (IntKind.wrap .u64 v.1)
      let x1129 : Int := (IntKind.wrap .u64 (x1127 - x1128))
      let x1130 : Int := (IntKind.wrap .i64 x1129)
      some (x1130, r1125.2)
    else
      let x1131 : Int := (IntKind.wrap .i64 x1127)
      some (x1131, r1125.2)
  else
    bif (decide (v.2 < (0 : Int))) then
      let x1132 : Int := (IntKind.wrap .u64 v.1)
      let x1133 : Int := (IntKind.wrap .u64 (r1125.1 - x1132))
      let x1134 : Int := (IntKind.wrap .i64 x1133)
      some (x1134, r1125.2)
    else
      let x1135 : Int := (IntKind.wrap .i64 r1125.1)
      some (x1135, r1125.2)

noncomputable def k88_0 : List (Known Try.prog E) := [Known.of envOk [1, 1] [.keep, .keep] v101_0 F101_0 w101_0 ok101_0]
noncomputable def L88_0 (n id : Nat) (st : St G) : Option (Int × Int) := none
set_option maxRecDepth 100000 in
theorem e88_0 (n : Nat) (v : Int × Int) : ev Try.prog E (oracle k88_0) Try.f88.ntmps (fun x => mem x []) (L88_0 n) (finF Try.prog E Try.f88.results.toList [[]] w88_0.alts) 4000 [.code (Try.f88.body.getD .skip)] (argSt (v88_0.enc v)) = F88_0 v := by kernel_rfl
theorem ok88_0 : FnOk Try.prog E 88 v88_0.enc F88_0 w88_0.enc :=
  fn_known (fn := Try.f88) (c := (Try.f88.body.getD .skip)) Try.func88 (by kernel_rfl) rfl envOk (oracle_ok k88_0) mixed v88_0 F88_0 w88_0 [] [[]] (by kernel_rfl) [] 4000 L88_0 (by kernel_rfl)
    (fun _ h => nomatch h) (fun v _ h => ⟨0, (e88_0 _ v).trans h⟩) (fun _ => by kernel_rfl) (fun _ => by kernel_rfl) (fun _ _ => by kernel_rfl)
/- math/bits.Add64 -/
abbrev A93_x : Type := Int × Int × Int
abbrev R93_x : Type := Int × Int
def v93_x : Pk G (Int × Int × Int) := p3u
def w93_x : Wk G (Int × Int) := Wk.one [.keep, .keep] p2u
def F93_x (v : Int × Int × Int) : Option (Int × Int) := add64F v
theorem ok93_x : FnOk Try.prog E 93 v93_x.enc F93_x w93_x.enc := add64_known Try.func93 (by kernel_rfl) (by kernel_rfl) (by kernel_rfl) (by kernel_rfl)
/- chicane/wide.Add -/
abbrev A63_0 : Type := (Int × Int) × Int × Int
abbrev R63_0 : Type := (Int × Int) × Bool
def v63_0 : Pk G ((Int × Int) × Int × Int) := (Pk.fst (pk (Sh.cons (Sh.agg (Sh.cons (Sh.int .i64) (Sh.fst (Sh.cons (Sh.int .u64) Sh.nil)))) (Sh.fst (Sh.cons (Sh.agg (Sh.cons (Sh.int .i64) (Sh.fst (Sh.cons (Sh.int .u64) Sh.nil)))) Sh.nil))) Sh.hnil))
def w63_0 : Wk G ((Int × Int) × Bool) := (Wk.one [(.agg [.keep, .keep]), .keep] (Pk.fst (pk (Sh.cons (Sh.agg (Sh.cons (Sh.int .i64) (Sh.fst (Sh.cons (Sh.int .u64) Sh.nil)))) (Sh.fst (Sh.cons Sh.bool Sh.nil))) Sh.hnil)))
def F63_0 (v : (Int × Int) × Int × Int) : Option ((Int × Int) × Bool) :=
  (F93_x (v.1.2, (v.2.2, (0 : Int)))).bind fun r1151 =>
  let x1152 : Int := (IntKind.wrap .u64 v.1.1)
  let x1153 : Int := (IntKind.wrap .u64 v.2.1)
  (F93_x (x1152, (x1153, r1151.2))).bind fun r1154 =>
  bif ((decide (v.1.1 < (0 : Int))) == (decide (v.2.1 < (0 : Int)))) then
    let x1155 : Int := (IntKind.wrap .i64 r1154.1)
    bif (!((decide (x1155 < (0 : Int))) == (decide (v.1.1 < (0 : Int))))) then
      some (((0 : Int), (0 : Int)), false)
    else
      let x1156 : Int := (IntKind.wrap .i64 r1154.1)
      some ((x1156, r1151.1), true)
  else
    let x1157 : Int := (IntKind.wrap .i64 r1154.1)
    some ((x1157, r1151.1), true)

noncomputable def k63_0 : List (Known Try.prog E) := [Known.of envOk [1, 1, 1] [.keep, .keep, .keep] v93_x F93_x w93_x ok93_x]
noncomputable def L63_0 (n id : Nat) (st : St G) : Option ((Int × Int) × Bool) := none
set_option maxRecDepth 100000 in
theorem e63_0 (n : Nat) (v : (Int × Int) × Int × Int) : ev Try.prog E (oracle k63_0) Try.f63.ntmps (fun x => mem x []) (L63_0 n) (finF Try.prog E Try.f63.results.toList [[]] w63_0.alts) 4000 [.code (Try.f63.body.getD .skip)] (argSt (v63_0.enc v)) = F63_0 v := by kernel_rfl
theorem ok63_0 : FnOk Try.prog E 63 v63_0.enc F63_0 w63_0.enc :=
  fn_known (fn := Try.f63) (c := (Try.f63.body.getD .skip)) Try.func63 (by kernel_rfl) rfl envOk (oracle_ok k63_0) mixed v63_0 F63_0 w63_0 [] [[]] (by kernel_rfl) [] 4000 L63_0 (by kernel_rfl)
    (fun _ h => nomatch h) (fun v _ h => ⟨0, (e63_0 _ v).trans h⟩) (fun _ => by kernel_rfl) (fun _ => by kernel_rfl) (fun _ _ => by kernel_rfl)
/- (chicane/wide.size).below -/
abbrev A112_0 : Type := (Int × Int) × Int × Int
abbrev R112_0 : Type := Bool
def v112_0 : Pk G ((Int × Int) × Int × Int) := (Pk.fst (pk (Sh.cons (Sh.agg (Sh.cons (Sh.int .u64) (Sh.fst (Sh.cons (Sh.int .u64) Sh.nil)))) (Sh.fst (Sh.cons (Sh.agg (Sh.cons (Sh.int .u64) (Sh.fst (Sh.cons (Sh.int .u64) Sh.nil)))) Sh.nil))) Sh.hnil))
def w112_0 : Wk G Bool := (Wk.one [.keep] (Pk.fst (pk (Sh.fst (Sh.cons Sh.bool Sh.nil)) Sh.hnil)))
def F112_0 (v : (Int × Int) × Int × Int) : Option Bool :=
  bif (decide (v.1.1 < v.2.1)) then
    some (true)
  else
    bif (v.1.1 == v.2.1) then
      some (decide (v.1.2 < v.2.2))
    else
      some (false)

noncomputable def k112_0 : List (Known Try.prog E) := []
noncomputable def L112_0 (n id : Nat) (st : St G) : Option Bool := none
set_option maxRecDepth 100000 in
theorem e112_0 (n : Nat) (v : (Int × Int) × Int × Int) : ev Try.prog E (oracle k112_0) Try.f112.ntmps (fun x => mem x []) (L112_0 n) (finF Try.prog E Try.f112.results.toList [[]] w112_0.alts) 4000 [.code (Try.f112.body.getD .skip)] (argSt (v112_0.enc v)) = F112_0 v := by kernel_rfl
theorem ok112_0 : FnOk Try.prog E 112 v112_0.enc F112_0 w112_0.enc :=
  fn_known (fn := Try.f112) (c := (Try.f112.body.getD .skip)) Try.func112 (by kernel_rfl) rfl envOk (oracle_ok k112_0) mixed v112_0 F112_0 w112_0 [] [[]] (by kernel_rfl) [] 4000 L112_0 (by kernel_rfl)
    (fun _ h => nomatch h) (fun v _ h => ⟨0, (e112_0 _ v).trans h⟩) (fun _ => by kernel_rfl) (fun _ => by kernel_rfl) (fun _ _ => by kernel_rfl)
/- chicane/wide.Root -/
abbrev A110_0 : Type := Int × Int
abbrev R110_0 : Type := Int
def v110_0 : Pk G (Int × Int) := (Pk.fst (pk (Sh.fst (Sh.cons (Sh.agg (Sh.cons (Sh.int .i64) (Sh.fst (Sh.cons (Sh.int .u64) Sh.nil)))) Sh.nil)) Sh.hnil))
def w110_0 : Wk G Int := (Wk.one [.keep] (Pk.fst (pk (Sh.fst (Sh.cons (Sh.int .u64) Sh.nil)) Sh.hnil)))
def c110_0_5 : Pk G ((Int × Int) × Int × Int) := (pk (Sh.snd (Sh.cons (Sh.ptr 0 0) (Sh.cons (Sh.int .u64) (Sh.fst (Sh.cons (Sh.int .u64) Sh.nil))))) (Sh.fst (Sh.hfix 0 149 (Sh.cons (Sh.int .u64) (Sh.fst (Sh.cons (Sh.int .u64) Sh.nil))) Sh.hnil)))
def B110_0_5 (K : (((Int × Int) × Int × Int) → Option Int)) (v : (Int × Int) × Int × Int) : Option Int :=
  bif (decide (v.1.1 < v.1.2)) then
    let x1181 : Int := (IntKind.wrap .u64 (v.1.2 - v.1.1))
    let x1182 : Int := (IntKind.wrap .u64 (x1181 + (1 : Int)))
    let x1183 : Int := (IntKind.wrap .u64 (Int.tdiv x1182 (2 : Int)))
    let x1184 : Int := (IntKind.wrap .u64 (v.1.1 + x1183))
    (F101_0 (x1184, x1184)).bind fun r1185 =>
    (F112_0 (v.2, r1185)).bind fun r1186 =>
    bif r1186 then
      let x1187 : Int := (IntKind.wrap .u64 (x1184 - (1 : Int)))
      K ((v.1.1, x1187), v.2)
    else
      K ((x1184, v.1.2), v.2)
  else
    some (v.1.1)

def E110_0 (K : (((Int × Int) × Int × Int) → Option Int)) (v : Int × Int) : Option Int :=
  bif (decide (v.1 < (0 : Int))) then
    some (0 : Int)
  else
    let x1179 : Bool := ((v.1 == (0 : Int)) && ((v.2 == (0 : Int)) && true))
    bif x1179 then
      some (0 : Int)
    else
      let x1180 : Int := (IntKind.wrap .u64 v.1)
      K (((1 : Int), (13835058055282163712 : Int)), (x1180, v.2))

def K110_0 : Nat → (((Int × Int) × Int × Int) → Option Int)
  | 0 => (fun _ => none)
  | n + 1 => (B110_0_5 (K110_0 n))
def fuel110_0 (v : Int × Int) : Nat := 1000
def F110_0 (v : Int × Int) : Option Int := E110_0 (K110_0 (fuel110_0 v)) v
noncomputable def k110_0 : List (Known Try.prog E) := [Known.of envOk [1, 1] [.keep, .keep] v101_0 F101_0 w101_0 ok101_0, Known.of envOk [9, 9] [(.agg [.keep, .keep]), (.agg [.keep, .keep])] v112_0 F112_0 w112_0 ok112_0]
def s110_0_5 : List (Nat × Pat) := [(3, (.ptr 0 0 149 [.keep, .keep])), (4, .keep), (5, .keep)]
noncomputable def L110_0 (n id : Nat) (st : St G) : Option Int := match Nat.beq id 5 with | true => cutK Try.prog s110_0_5 [] c110_0_5.dec (K110_0 n) st | false => none
set_option maxRecDepth 100000 in
theorem e110_0 (n : Nat) (v : Int × Int) : ev Try.prog E (oracle k110_0) Try.f110.ntmps (fun x => mem x [5]) (L110_0 n) (finF Try.prog E Try.f110.results.toList [[]] w110_0.alts) 4000 [.code (Try.f110.body.getD .skip)] (argSt (v110_0.enc v)) = E110_0 (K110_0 n) v := by kernel_rfl
set_option maxRecDepth 100000 in
theorem b110_0_5 (n : Nat) (v : (Int × Int) × Int × Int) : evCut Try.prog E (oracle k110_0) false 110 Try.f110.ntmps (fun x => mem x [5]) (L110_0 n) (finF Try.prog E Try.f110.results.toList [[]] w110_0.alts) 4000 (todoAt (Try.f110.body.getD .skip) 5) (cutSt s110_0_5 (c110_0_5.enc v)) = B110_0_5 (K110_0 n) v := by kernel_rfl
theorem ok110_0 : FnOk Try.prog E 110 v110_0.enc F110_0 w110_0.enc :=
  fn_known (fn := Try.f110) (c := (Try.f110.body.getD .skip)) Try.func110 (by kernel_rfl) rfl envOk (oracle_ok k110_0) mixed v110_0 F110_0 w110_0 [] [[]] (by kernel_rfl) [5] 4000 L110_0 (by kernel_rfl)
    (List.forall_mem_cons.2 ⟨⟨_, [], s110_0_5, c110_0_5.dec, c110_0_5.enc, fun n => (K110_0 n), c110_0_5.ok, fun _ _ => rfl, fun _ => rfl, by kernel_rfl, fun n v _ h => (b110_0_5 n v).trans h⟩, fun _ h => (nomatch h)⟩) (fun v _ h => ⟨fuel110_0 v, (e110_0 _ v).trans h⟩) (fun _ => by kernel_rfl) (fun _ => by kernel_rfl) (fun _ _ => by kernel_rfl)
/- chicane/root.length -/
abbrev A107_0 : Type := List Int × Bool
abbrev R107_0 : Type := Int × Bool
def v107_0 : Pk G (List Int × Bool) := (pk (Sh.snd (Sh.cons (Sh.ptr 0 0) (Sh.fst (Sh.cons (Sh.ros 22) Sh.nil)))) (Sh.fst (Sh.hfix 0 50 (Sh.fst (Sh.cons Sh.bool Sh.nil)) Sh.hnil)))
def w107_0 : Wk G (Int × Bool) := (Wk.one [.keep] (pk (Sh.fst (Sh.cons (Sh.int .i64) Sh.nil)) (Sh.fst (Sh.hfix 0 50 (Sh.fst (Sh.cons Sh.bool Sh.nil)) Sh.hnil))))
def c107_0_4 : Pk G ((Bool × List Int × Int × Int) × (Int × Int) × Bool) := (pk (Sh.snd (Sh.cons (Sh.ptr 0 0) (Sh.snd (Sh.cons (Sh.ptr 1 0) (Sh.cons Sh.bool (Sh.cons (Sh.ros 22) (Sh.cons (Sh.int .i64) (Sh.fst (Sh.cons (Sh.int .i64) Sh.nil))))))))) (Sh.hfix 1 107 (Sh.cons (Sh.int .i64) (Sh.fst (Sh.cons (Sh.int .u64) Sh.nil))) (Sh.fst (Sh.hfix 0 50 (Sh.fst (Sh.cons Sh.bool Sh.nil)) Sh.hnil))))
def B107_0_4 (K : (((Bool × List Int × Int × Int) × (Int × Int) × Bool) → Option (Int × Bool))) (v : (Bool × List Int × Int × Int) × (Int × Int) × Bool) : Option (Int × Bool) :=
  bif (decide (v.1.2.2.2 < v.1.2.2.1)) then
    (rdx v.1.2.1 v.1.2.2.2).bind fun (x1202 : Int) =>
    (F88_0 (x1202, x1202)).bind fun r1203 =>
    (F63_0 (v.2.1, r1203)).bind fun r1204 =>
    bif (!r1204.2) then
      (F110_0 r1204.1).bind fun r1205 =>
      bif (!r1204.2) then
        some ((9223372036854775807 : Int), true)
      else
        bif (decide (r1205 > (9223372036854775807 : Int))) then
          some ((9223372036854775807 : Int), true)
        else
          let x1206 : Int := (IntKind.wrap .i64 r1205)
          some (x1206, v.2.2)
    else
      let x1207 : Int := (IntKind.wrap .i64 (v.1.2.2.2 + (1 : Int)))
      K ((r1204.2, (v.1.2.1, (v.1.2.2.1, x1207))), (r1204.1, v.2.2))
  else
    (F110_0 v.2.1).bind fun r1208 =>
    bif (!v.1.1) then
      some ((9223372036854775807 : Int), true)
    else
      bif (decide (r1208 > (9223372036854775807 : Int))) then
        some ((9223372036854775807 : Int), true)
      else
        let x1209 : Int := (IntKind.wrap .i64 r1208)
        some (x1209, v.2.2)

def E107_0 (K : (((Bool × List Int × Int × Int) × (Int × Int) × Bool) → Option (Int × Bool))) (v : List Int × Bool) : Option (Int × Bool) :=
  K ((true, (v.1, (((v.1).length : Int), (0 : Int)))), (((0 : Int), (0 : Int)), v.2))

def K107_0 : Nat → (((Bool × List Int × Int × Int) × (Int × Int) × Bool) → Option (Int × Bool))
  | 0 => (fun _ => none)
  | n + 1 => (B107_0_4 (K107_0 n))
def fuel107_0 (v : List Int × Bool) : Nat := 1000
def F107_0 (v : List Int × Bool) : Option (Int × Bool) := E107_0 (K107_0 (fuel107_0 v)) v
noncomputable def k107_0 : List (Known Try.prog E) := [Known.of envOk [1, 1] [.keep, .keep] v88_0 F88_0 w88_0 ok88_0, Known.of envOk [9, 9] [(.agg [.keep, .keep]), (.agg [.keep, .keep])] v63_0 F63_0 w63_0 ok63_0, Known.of envOk [9] [(.agg [.keep, .keep])] v110_0 F110_0 w110_0 ok110_0]
def s107_0_4 : List (Nat × Pat) := [(0, (.ptr 0 0 50 [])), (5, (.ptr 1 0 107 [.keep, .keep])), (6, .keep), (10, (.ros 22)), (11, .keep), (12, .keep)]
noncomputable def L107_0 (n id : Nat) (st : St G) : Option (Int × Bool) := match Nat.beq id 4 with | true => cutK Try.prog s107_0_4 [(.ptr 0 0 50 [.keep])] c107_0_4.dec (K107_0 n) st | false => none
set_option maxRecDepth 100000 in
theorem e107_0 (n : Nat) (v : List Int × Bool) : ev Try.prog E (oracle k107_0) Try.f107.ntmps (fun x => mem x [4]) (L107_0 n) (finF Try.prog E Try.f107.results.toList [[(.ptr 0 0 50 [.keep])]] w107_0.alts) 4000 [.code (Try.f107.body.getD .skip)] (argSt (v107_0.enc v)) = E107_0 (K107_0 n) v := by kernel_rfl
set_option maxRecDepth 100000 in
theorem b107_0_4 (n : Nat) (v : (Bool × List Int × Int × Int) × (Int × Int) × Bool) : evCut Try.prog E (oracle k107_0) false 107 Try.f107.ntmps (fun x => mem x [4]) (L107_0 n) (finF Try.prog E Try.f107.results.toList [[(.ptr 0 0 50 [.keep])]] w107_0.alts) 4000 (todoAt (Try.f107.body.getD .skip) 4) (cutSt s107_0_4 (c107_0_4.enc v)) = B107_0_4 (K107_0 n) v := by kernel_rfl
theorem ok107_0 : FnOk Try.prog E 107 v107_0.enc F107_0 w107_0.enc :=
  fn_known (fn := Try.f107) (c := (Try.f107.body.getD .skip)) Try.func107 (by kernel_rfl) rfl envOk (oracle_ok k107_0) mixed v107_0 F107_0 w107_0 [(.ptr 0 0 50 [.keep])] [[(.ptr 0 0 50 [.keep])]] (by kernel_rfl) [4] 4000 L107_0 (by kernel_rfl)
    (List.forall_mem_cons.2 ⟨⟨_, [(.ptr 0 0 50 [.keep])], s107_0_4, c107_0_4.dec, c107_0_4.enc, fun n => (K107_0 n), c107_0_4.ok, fun _ _ => rfl, fun _ => rfl, by kernel_rfl, fun n v _ h => (b107_0_4 n v).trans h⟩, fun _ h => (nomatch h)⟩) (fun v _ h => ⟨fuel107_0 v, (e107_0 _ v).trans h⟩) (fun _ => by kernel_rfl) (fun _ => by kernel_rfl) (fun _ _ => by kernel_rfl)
/- chicane/root.Len3 -/
abbrev A102_0 : Type := (Int × Int × Int) × Bool
abbrev R102_0 : Type := Int × Bool
def v102_0 : Pk G ((Int × Int × Int) × Bool) := (pk (Sh.snd (Sh.cons (Sh.ptr 0 0) (Sh.cons (Sh.int .i64) (Sh.cons (Sh.int .i64) (Sh.fst (Sh.cons (Sh.int .i64) Sh.nil)))))) (Sh.fst (Sh.hfix 0 50 (Sh.fst (Sh.cons Sh.bool Sh.nil)) Sh.hnil)))
def w102_0 : Wk G (Int × Bool) := (Wk.one [.keep] (pk (Sh.fst (Sh.cons (Sh.int .i64) Sh.nil)) (Sh.fst (Sh.hfix 0 50 (Sh.fst (Sh.cons Sh.bool Sh.nil)) Sh.hnil))))
def F102_0 (v : (Int × Int × Int) × Bool) : Option (Int × Bool) :=
  (F107_0 (([v.1.1, v.1.2.1, v.1.2.2] : List Int), v.2)).bind fun r1212 =>
  some (r1212)

noncomputable def k102_0 : List (Known Try.prog E) := [Known.of envOk [5, 7] [(.ptr 0 0 50 [.keep]), (.ros 22)] v107_0 F107_0 w107_0 ok107_0]
noncomputable def L102_0 (n id : Nat) (st : St G) : Option (Int × Bool) := none
set_option maxRecDepth 100000 in
theorem e102_0 (n : Nat) (v : (Int × Int × Int) × Bool) : ev Try.prog E (oracle k102_0) Try.f102.ntmps (fun x => mem x []) (L102_0 n) (finF Try.prog E Try.f102.results.toList [[(.ptr 0 0 50 [.keep])]] w102_0.alts) 4000 [.code (Try.f102.body.getD .skip)] (argSt (v102_0.enc v)) = F102_0 v := by kernel_rfl
theorem ok102_0 : FnOk Try.prog E 102 v102_0.enc F102_0 w102_0.enc :=
  fn_known (fn := Try.f102) (c := (Try.f102.body.getD .skip)) Try.func102 (by kernel_rfl) rfl envOk (oracle_ok k102_0) mixed v102_0 F102_0 w102_0 [(.ptr 0 0 50 [.keep])] [[(.ptr 0 0 50 [.keep])]] (by kernel_rfl) [] 4000 L102_0 (by kernel_rfl)
    (fun _ h => nomatch h) (fun v _ h => ⟨0, (e102_0 _ v).trans h⟩) (fun _ => by kernel_rfl) (fun _ => by kernel_rfl) (fun _ _ => by kernel_rfl)
/- chicane/root.Unit3 -/
abbrev A89_0 : Type := (Int × Int × Int) × Bool
abbrev R89_0 : Type := (Int × Int × Int × Bool) × Bool
def v89_0 : Pk G ((Int × Int × Int) × Bool) := (pk (Sh.snd (Sh.cons (Sh.ptr 0 0) (Sh.cons (Sh.int .i64) (Sh.cons (Sh.int .i64) (Sh.fst (Sh.cons (Sh.int .i64) Sh.nil)))))) (Sh.fst (Sh.hfix 0 50 (Sh.fst (Sh.cons Sh.bool Sh.nil)) Sh.hnil)))
def w89_0 : Wk G ((Int × Int × Int × Bool) × Bool) := (Wk.one [.keep, .keep, .keep, .keep] (pk (Sh.cons (Sh.int .i64) (Sh.cons (Sh.int .i64) (Sh.cons (Sh.int .i64) (Sh.fst (Sh.cons Sh.bool Sh.nil))))) (Sh.fst (Sh.hfix 0 50 (Sh.fst (Sh.cons Sh.bool Sh.nil)) Sh.hnil))))
def F89_0 (v : (Int × Int × Int) × Bool) : Option ((Int × Int × Int × Bool) × Bool) :=
  (F102_0 v).bind fun r1221 =>
  bif (r1221.1 == (0 : Int)) then
    some (((0 : Int), ((0 : Int), ((0 : Int), false))), r1221.2)
  else
    (F54_0 ((v.1.1, r1221.1), r1221.2)).bind fun r1222 =>
    (F54_0 ((v.1.2.1, r1221.1), r1222.2)).bind fun r1223 =>
    (F54_0 ((v.1.2.2, r1221.1), r1223.2)).bind fun r1224 =>
    some ((r1222.1, (r1223.1, (r1224.1, true))), r1224.2)

noncomputable def k89_0 : List (Known Try.prog E) := [Known.of envOk [5, 1, 1, 1] [(.ptr 0 0 50 [.keep]), .keep, .keep, .keep] v102_0 F102_0 w102_0 ok102_0, Known.of envOk [5, 1, 1] [(.ptr 0 0 50 [.keep]), .keep, .keep] v54_0 F54_0 w54_0 ok54_0]
noncomputable def L89_0 (n id : Nat) (st : St G) : Option ((Int × Int × Int × Bool) × Bool) := none
set_option maxRecDepth 100000 in
theorem e89_0 (n : Nat) (v : (Int × Int × Int) × Bool) : ev Try.prog E (oracle k89_0) Try.f89.ntmps (fun x => mem x []) (L89_0 n) (finF Try.prog E Try.f89.results.toList [[(.ptr 0 0 50 [.keep])]] w89_0.alts) 4000 [.code (Try.f89.body.getD .skip)] (argSt (v89_0.enc v)) = F89_0 v := by kernel_rfl
theorem ok89_0 : FnOk Try.prog E 89 v89_0.enc F89_0 w89_0.enc :=
  fn_known (fn := Try.f89) (c := (Try.f89.body.getD .skip)) Try.func89 (by kernel_rfl) rfl envOk (oracle_ok k89_0) mixed v89_0 F89_0 w89_0 [(.ptr 0 0 50 [.keep])] [[(.ptr 0 0 50 [.keep])]] (by kernel_rfl) [] 4000 L89_0 (by kernel_rfl)
    (fun _ h => nomatch h) (fun v _ h => ⟨0, (e89_0 _ v).trans h⟩) (fun _ => by kernel_rfl) (fun _ => by kernel_rfl) (fun _ _ => by kernel_rfl)
/- chicane/vec.Unit -/
abbrev A59_0 : Type := (Int × Int × Int) × Bool
abbrev R59_0 : Type := ((Int × Int × Int) × Bool) × Bool
def v59_0 : Pk G ((Int × Int × Int) × Bool) := (pk (Sh.snd (Sh.cons (Sh.ptr 0 0) (Sh.fst (Sh.cons (Sh.agg (Sh.cons (Sh.int .i64) (Sh.cons (Sh.int .i64) (Sh.fst (Sh.cons (Sh.int .i64) Sh.nil))))) Sh.nil)))) (Sh.fst (Sh.hfix 0 50 (Sh.fst (Sh.cons Sh.bool Sh.nil)) Sh.hnil)))
def w59_0 : Wk G (((Int × Int × Int) × Bool) × Bool) := (Wk.one [(.agg [.keep, .keep, .keep]), .keep] (pk (Sh.cons (Sh.agg (Sh.cons (Sh.int .i64) (Sh.cons (Sh.int .i64) (Sh.fst (Sh.cons (Sh.int .i64) Sh.nil))))) (Sh.fst (Sh.cons Sh.bool Sh.nil))) (Sh.fst (Sh.hfix 0 50 (Sh.fst (Sh.cons Sh.bool Sh.nil)) Sh.hnil))))
def F59_0 (v : (Int × Int × Int) × Bool) : Option (((Int × Int × Int) × Bool) × Bool) :=
  (F89_0 v).bind fun r1227 =>
  some (((r1227.1.1, (r1227.1.2.1, r1227.1.2.2.1)), r1227.1.2.2.2), r1227.2)

noncomputable def k59_0 : List (Known Try.prog E) := [Known.of envOk [5, 1, 1, 1] [(.ptr 0 0 50 [.keep]), .keep, .keep, .keep] v89_0 F89_0 w89_0 ok89_0]
noncomputable def L59_0 (n id : Nat) (st : St G) : Option (((Int × Int × Int) × Bool) × Bool) := none
set_option maxRecDepth 100000 in
theorem e59_0 (n : Nat) (v : (Int × Int × Int) × Bool) : ev Try.prog E (oracle k59_0) Try.f59.ntmps (fun x => mem x []) (L59_0 n) (finF Try.prog E Try.f59.results.toList [[(.ptr 0 0 50 [.keep])]] w59_0.alts) 4000 [.code (Try.f59.body.getD .skip)] (argSt (v59_0.enc v)) = F59_0 v := by kernel_rfl
theorem ok59_0 : FnOk Try.prog E 59 v59_0.enc F59_0 w59_0.enc :=
  fn_known (fn := Try.f59) (c := (Try.f59.body.getD .skip)) Try.func59 (by kernel_rfl) rfl envOk (oracle_ok k59_0) mixed v59_0 F59_0 w59_0 [(.ptr 0 0 50 [.keep])] [[(.ptr 0 0 50 [.keep])]] (by kernel_rfl) [] 4000 L59_0 (by kernel_rfl)
    (fun _ h => nomatch h) (fun v _ h => ⟨0, (e59_0 _ v).trans h⟩) (fun _ => by kernel_rfl) (fun _ => by kernel_rfl) (fun _ _ => by kernel_rfl)
/- (*chicane/field.Field).Normal -/
abbrev A23_0 : Type := (Int × Int) × Bool × (Int × Int × Int × Int × Int) × List Int × List Int
abbrev R23_0 : Type := (Int × Int × Int) × Bool × (Int × Int × Int × Int × Int) × List Int × List Int
def v23_0 : Pk G ((Int × Int) × Bool × (Int × Int × Int × Int × Int) × List Int × List Int) := (pk (Sh.snd (Sh.cons (Sh.ptr 0 0) (Sh.snd (Sh.cons (Sh.ptr 3 0) (Sh.cons (Sh.int .i64) (Sh.fst (Sh.cons (Sh.int .i64) Sh.nil))))))) (Sh.hfix 3 50 (Sh.fst (Sh.cons Sh.bool Sh.nil)) (Sh.hfix 0 91 (Sh.cons (Sh.int .i64) (Sh.cons (Sh.int .i64) (Sh.cons (Sh.int .i64) (Sh.cons (Sh.int .i64) (Sh.fst (Sh.cons (Sh.int .i64) (Sh.snd (Sh.cons (Sh.osl 1) (Sh.snd (Sh.cons (Sh.osl 2) Sh.nil)))))))))) (Sh.hrow 2 3 (Sh.fst (Sh.hrow 1 22 Sh.hnil))))))
def w23_0 : Wk G ((Int × Int × Int) × Bool × (Int × Int × Int × Int × Int) × List Int × List Int) := (Wk.one [(.agg [.keep, .keep, .keep])] (pk (Sh.fst (Sh.cons (Sh.agg (Sh.cons (Sh.int .i64) (Sh.cons (Sh.int .i64) (Sh.fst (Sh.cons (Sh.int .i64) Sh.nil))))) Sh.nil)) (Sh.hfix 3 50 (Sh.fst (Sh.cons Sh.bool Sh.nil)) (Sh.hfix 0 91 (Sh.cons (Sh.int .i64) (Sh.cons (Sh.int .i64) (Sh.cons (Sh.int .i64) (Sh.cons (Sh.int .i64) (Sh.fst (Sh.cons (Sh.int .i64) (Sh.snd (Sh.cons (Sh.osl 1) (Sh.snd (Sh.cons (Sh.osl 2) Sh.nil)))))))))) (Sh.hrow 1 22 (Sh.fst (Sh.hrow 2 3 Sh.hnil)))))))
def F23_0 (v : (Int × Int) × Bool × (Int × Int × Int × Int × Int) × List Int × List Int) : Option ((Int × Int × Int) × Bool × (Int × Int × Int × Int × Int) × List Int × List Int) :=
  (F15_0 (v.1, v.2.2)).bind fun r1234 =>
  (F19_0 ((r1234.1.1, (r1234.1.2.1, (decide (r1234.1.2.2.1 < r1234.1.2.2.2)))), (v.2.1, (r1234.2.1, (r1234.2.2.2, r1234.2.2.1))))).bind fun r1235 =>
  let x1236 : Int := (IntKind.wrap .i64 (0 - r1235.1.1))
  let x1237 : Int := (IntKind.wrap .i64 (0 - r1235.1.2))
  (F59_0 ((x1236, (x1237, (4294967296 : Int))), r1235.2.1)).bind fun r1238 =>
  some (r1238.1.1, (r1238.2, r1235.2.2))

noncomputable def k23_0 : List (Known Try.prog E) := [Known.of envOk [5, 1, 1] [(.ptr 0 0 91 [.keep, .keep, .keep, .keep, .keep, (.own 1 22), (.own 2 3)]), .keep, .keep] v15_0 F15_0 w15_0 ok15_0, Known.of envOk [5, 5, 1, 1, 2] [(.ptr 0 0 91 [.keep, .keep, .keep, .keep, .keep, (.own 1 22), (.own 2 3)]), (.ptr 3 0 50 [.keep]), .keep, .keep, .keep] v19_0 F19_0 w19_0 ok19_0, Known.of envOk [5, 9] [(.ptr 0 0 50 [.keep]), (.agg [.keep, .keep, .keep])] v59_0 F59_0 w59_0 ok59_0]
noncomputable def L23_0 (n id : Nat) (st : St G) : Option ((Int × Int × Int) × Bool × (Int × Int × Int × Int × Int) × List Int × List Int) := none
set_option maxRecDepth 100000 in
theorem e23_0 (n : Nat) (v : (Int × Int) × Bool × (Int × Int × Int × Int × Int) × List Int × List Int) : ev Try.prog E (oracle k23_0) Try.f23.ntmps (fun x => mem x []) (L23_0 n) (finF Try.prog E Try.f23.results.toList [[(.own 2 3), (.own 1 22), (.ptr 0 0 91 [.keep, .keep, .keep, .keep, .keep, (.own 1 22), (.own 2 3)]), (.ptr 3 0 50 [.keep])]] w23_0.alts) 4000 [.code (Try.f23.body.getD .skip)] (argSt (v23_0.enc v)) = F23_0 v := by kernel_rfl
theorem ok23_0 : FnOk Try.prog E 23 v23_0.enc F23_0 w23_0.enc :=
  fn_known (fn := Try.f23) (c := (Try.f23.body.getD .skip)) Try.func23 (by kernel_rfl) rfl envOk (oracle_ok k23_0) mixed v23_0 F23_0 w23_0 [(.own 2 3), (.own 1 22), (.ptr 0 0 91 [.keep, .keep, .keep, .keep, .keep, (.own 1 22), (.own 2 3)]), (.ptr 3 0 50 [.keep])] [[(.own 2 3), (.own 1 22), (.ptr 0 0 91 [.keep, .keep, .keep, .keep, .keep, (.own 1 22), (.own 2 3)]), (.ptr 3 0 50 [.keep])]] (by kernel_rfl) [] 4000 L23_0 (by kernel_rfl)
    (fun _ h => nomatch h) (fun v _ h => ⟨0, (e23_0 _ v).trans h⟩) (fun _ => by kernel_rfl) (fun _ => by kernel_rfl) (fun _ _ => by kernel_rfl)
/- (*chicane/field.Field).Base -/
abbrev A17_0 : Type := (Int × Int) × (Int × Int × Int × Int × Int) × List Int × List Int
abbrev R17_0 : Type := Int × (Int × Int × Int × Int × Int) × List Int × List Int
def v17_0 : Pk G ((Int × Int) × (Int × Int × Int × Int × Int) × List Int × List Int) := (pk (Sh.snd (Sh.cons (Sh.ptr 0 0) (Sh.cons (Sh.int .i64) (Sh.fst (Sh.cons (Sh.int .i64) Sh.nil))))) (Sh.hfix 0 91 (Sh.cons (Sh.int .i64) (Sh.cons (Sh.int .i64) (Sh.cons (Sh.int .i64) (Sh.cons (Sh.int .i64) (Sh.fst (Sh.cons (Sh.int .i64) (Sh.snd (Sh.cons (Sh.osl 1) (Sh.snd (Sh.cons (Sh.osl 2) Sh.nil)))))))))) (Sh.hrow 2 3 (Sh.fst (Sh.hrow 1 22 Sh.hnil)))))
def w17_0 : Wk G (Int × (Int × Int × Int × Int × Int) × List Int × List Int) := (Wk.one [.keep] (pk (Sh.fst (Sh.cons (Sh.int .i64) Sh.nil)) (Sh.hfix 0 91 (Sh.cons (Sh.int .i64) (Sh.cons (Sh.int .i64) (Sh.cons (Sh.int .i64) (Sh.cons (Sh.int .i64) (Sh.fst (Sh.cons (Sh.int .i64) (Sh.snd (Sh.cons (Sh.osl 1) (Sh.snd (Sh.cons (Sh.osl 2) Sh.nil)))))))))) (Sh.hrow 1 22 (Sh.fst (Sh.hrow 2 3 Sh.hnil))))))
def F17_0 (v : (Int × Int) × (Int × Int × Int × Int × Int) × List Int × List Int) : Option (Int × (Int × Int × Int × Int × Int) × List Int × List Int) :=
  (F53_0 v).bind fun r1248 =>
  bif r1248.1.2 then
    (idx r1248.1.1 (r1248.2.2.1).length).bind fun (x1249 : Nat) =>
    ((r1248.2.2.1)[x1249]?).bind fun (x1250 : Int) =>
    some (x1250, r1248.2)
  else
    some ((0 : Int), r1248.2)

noncomputable def k17_0 : List (Known Try.prog E) := [Known.of envOk [5, 1, 1] [(.ptr 0 0 91 [.keep, .keep, .keep, .keep, .keep, (.own 1 22), (.own 2 3)]), .keep, .keep] v53_0 F53_0 w53_0 ok53_0]
noncomputable def L17_0 (n id : Nat) (st : St G) : Option (Int × (Int × Int × Int × Int × Int) × List Int × List Int) := none
set_option maxRecDepth 100000 in
theorem e17_0 (n : Nat) (v : (Int × Int) × (Int × Int × Int × Int × Int) × List Int × List Int) : ev Try.prog E (oracle k17_0) Try.f17.ntmps (fun x => mem x []) (L17_0 n) (finF Try.prog E Try.f17.results.toList [[(.own 2 3), (.own 1 22), (.ptr 0 0 91 [.keep, .keep, .keep, .keep, .keep, (.own 1 22), (.own 2 3)])]] w17_0.alts) 4000 [.code (Try.f17.body.getD .skip)] (argSt (v17_0.enc v)) = F17_0 v := by kernel_rfl
theorem ok17_0 : FnOk Try.prog E 17 v17_0.enc F17_0 w17_0.enc :=
  fn_known (fn := Try.f17) (c := (Try.f17.body.getD .skip)) Try.func17 (by kernel_rfl) rfl envOk (oracle_ok k17_0) mixed v17_0 F17_0 w17_0 [(.own 2 3), (.own 1 22), (.ptr 0 0 91 [.keep, .keep, .keep, .keep, .keep, (.own 1 22), (.own 2 3)])] [[(.own 2 3), (.own 1 22), (.ptr 0 0 91 [.keep, .keep, .keep, .keep, .keep, (.own 1 22), (.own 2 3)])]] (by kernel_rfl) [] 4000 L17_0 (by kernel_rfl)
    (fun _ h => nomatch h) (fun v _ h => ⟨0, (e17_0 _ v).trans h⟩) (fun _ => by kernel_rfl) (fun _ => by kernel_rfl) (fun _ _ => by kernel_rfl)
/- chicane/wide.Of -/
abbrev A62_0 : Type := Int
abbrev R62_0 : Type := Int × Int
def v62_0 : Pk G Int := (Pk.fst (pk (Sh.fst (Sh.cons (Sh.int .i64) Sh.nil)) Sh.hnil))
def w62_0 : Wk G (Int × Int) := (Wk.one [(.agg [.keep, .keep])] (Pk.fst (pk (Sh.fst (Sh.cons (Sh.agg (Sh.cons (Sh.int .i64) (Sh.fst (Sh.cons (Sh.int .u64) Sh.nil)))) Sh.nil)) Sh.hnil)))
def F62_0 (v : Int) : Option (Int × Int) :=
  let x1263 : Int := (Int.fdiv v (2 ^ 63))
  let x1264 : Int := (IntKind.wrap .u64 v)
  some (x1263, x1264)

noncomputable def k62_0 : List (Known Try.prog E) := []
noncomputable def L62_0 (n id : Nat) (st : St G) : Option (Int × Int) := none
set_option maxRecDepth 100000 in
theorem e62_0 (n : Nat) (v : Int) : ev Try.prog E (oracle k62_0) Try.f62.ntmps (fun x => mem x []) (L62_0 n) (finF Try.prog E Try.f62.results.toList [[]] w62_0.alts) 4000 [.code (Try.f62.body.getD .skip)] (argSt (v62_0.enc v)) = F62_0 v := by kernel_rfl
theorem ok62_0 : FnOk Try.prog E 62 v62_0.enc F62_0 w62_0.enc :=
  fn_known (fn := Try.f62) (c := (Try.f62.body.getD .skip)) Try.func62 (by kernel_rfl) rfl envOk (oracle_ok k62_0) mixed v62_0 F62_0 w62_0 [] [[]] (by kernel_rfl) [] 4000 L62_0 (by kernel_rfl)
    (fun _ h => nomatch h) (fun v _ h => ⟨0, (e62_0 _ v).trans h⟩) (fun _ => by kernel_rfl) (fun _ => by kernel_rfl) (fun _ _ => by kernel_rfl)
/- chicane/fx.fit -/
abbrev A64_0 : Type := (Int × Int) × Bool
abbrev R64_0 : Type := Int × Bool
def v64_0 : Pk G ((Int × Int) × Bool) := (pk (Sh.fst (Sh.cons (Sh.agg (Sh.cons (Sh.int .i64) (Sh.fst (Sh.cons (Sh.int .u64) Sh.nil)))) (Sh.snd (Sh.cons (Sh.snd (Sh.fn (.func 65) (Sh.snd (Sh.cons (Sh.ptr 0 0) Sh.nil)) Sh.nil)) Sh.nil)))) (Sh.fst (Sh.hfix 0 50 (Sh.fst (Sh.cons Sh.bool Sh.nil)) Sh.hnil)))
def w64_0 : Wk G (Int × Bool) := (Wk.one [.keep] (pk (Sh.fst (Sh.cons (Sh.int .i64) Sh.nil)) (Sh.fst (Sh.hfix 0 50 (Sh.fst (Sh.cons Sh.bool Sh.nil)) Sh.hnil))))
def F64_0 (v : (Int × Int) × Bool) : Option (Int × Bool) :=
  let x1275 : Int := (IntKind.wrap .i64 v.1.2)
  let x1276 : Int := (Int.fdiv x1275 (2 ^ 63))
  bif (v.1.1 != x1276) then
    (F65_0 ((decide (v.1.1 < (0 : Int))), v.2)).bind fun r1277 =>
    some (r1277)
  else
    let x1278 : Int := (IntKind.wrap .i64 v.1.2)
    some (x1278, v.2)

noncomputable def k64_0 : List (Known Try.prog E) := [Known.of envOk [5, 2] [(.ptr 0 0 50 [.keep]), .keep] v65_0 F65_0 w65_0 ok65_0]
noncomputable def L64_0 (n id : Nat) (st : St G) : Option (Int × Bool) := none
set_option maxRecDepth 100000 in
theorem e64_0 (n : Nat) (v : (Int × Int) × Bool) : ev Try.prog E (oracle k64_0) Try.f64.ntmps (fun x => mem x []) (L64_0 n) (finF Try.prog E Try.f64.results.toList [[(.ptr 0 0 50 [.keep])]] w64_0.alts) 4000 [.code (Try.f64.body.getD .skip)] (argSt (v64_0.enc v)) = F64_0 v := by kernel_rfl
theorem ok64_0 : FnOk Try.prog E 64 v64_0.enc F64_0 w64_0.enc :=
  fn_known (fn := Try.f64) (c := (Try.f64.body.getD .skip)) Try.func64 (by kernel_rfl) rfl envOk (oracle_ok k64_0) mixed v64_0 F64_0 w64_0 [(.ptr 0 0 50 [.keep])] [[(.ptr 0 0 50 [.keep])]] (by kernel_rfl) [] 4000 L64_0 (by kernel_rfl)
    (fun _ h => nomatch h) (fun v _ h => ⟨0, (e64_0 _ v).trans h⟩) (fun _ => by kernel_rfl) (fun _ => by kernel_rfl) (fun _ _ => by kernel_rfl)
/- (*chicane/fx.M).Mul -/
abbrev A56_0 : Type := (Int × Int) × Bool
abbrev R56_0 : Type := Int × Bool
def v56_0 : Pk G ((Int × Int) × Bool) := (pk (Sh.snd (Sh.cons (Sh.ptr 0 0) (Sh.cons (Sh.int .i64) (Sh.fst (Sh.cons (Sh.int .i64) Sh.nil))))) (Sh.fst (Sh.hfix 0 50 (Sh.fst (Sh.cons Sh.bool Sh.nil)) Sh.hnil)))
def w56_0 : Wk G (Int × Bool) := (Wk.one [.keep] (pk (Sh.fst (Sh.cons (Sh.int .i64) Sh.nil)) (Sh.fst (Sh.hfix 0 50 (Sh.fst (Sh.cons Sh.bool Sh.nil)) Sh.hnil))))
def F56_0 (v : (Int × Int) × Bool) : Option (Int × Bool) :=
  (F88_0 v.1).bind fun r1302 =>
  let x1303 : Int := (IntKind.wrap .u32 r1302.2)
  let x1304 : Int := (Int.fdiv r1302.1 (2 ^ 32))
  let x1305 : Int := (IntKind.wrap .u64 r1302.1)
  let x1306 : Int := (IntKind.wrap .u64 (x1305 * 2 ^ 32))
  let x1307 : Int := (Int.fdiv r1302.2 (2 ^ 32))
  let x1308 : Int := (Go.bits .or .u64 x1306 x1307)
  bif (decide (x1303 > (2147483648 : Int))) then
    (F62_0 (1 : Int)).bind fun r1309 =>
    (F63_0 ((x1304, x1308), r1309)).bind fun r1310 =>
    (F64_0 (r1310.1, v.2)).bind fun r1311 =>
    some (r1311)
  else
    bif (x1303 == (2147483648 : Int)) then
      let x1312 : Int := (Go.bits .and .u64 x1308 (1 : Int))
      bif (x1312 == (1 : Int)) then
        (F62_0 (1 : Int)).bind fun r1313 =>
        (F63_0 ((x1304, x1308), r1313)).bind fun r1314 =>
        (F64_0 (r1314.1, v.2)).bind fun r1315 =>
        some (r1315)
      else
        (F64_0 ((x1304, x1308), v.2)).bind fun r1316 =>
        some (r1316)
    else
      (F64_0 ((x1304, x1308), v.2)).bind fun r1317 =>
      some (r1317)

noncomputable def k56_0 : List (Known Try.prog E) := [Known.of envOk [1, 1] [.keep, .keep] v88_0 F88_0 w88_0 ok88_0, Known.of envOk [1] [.keep] v62_0 F62_0 w62_0 ok62_0, Known.of envOk [9, 9] [(.agg [.keep, .keep]), (.agg [.keep, .keep])] v63_0 F63_0 w63_0 ok63_0, Known.of envOk [9, 165] [(.agg [.keep, .keep]), (.fn (.func 65) [(.ptr 0 0 50 [.keep])] [])] v64_0 F64_0 w64_0 ok64_0]
noncomputable def L56_0 (n id : Nat) (st : St G) : Option (Int × Bool) := none
set_option maxRecDepth 100000 in
theorem e56_0 (n : Nat) (v : (Int × Int) × Bool) : ev Try.prog E (oracle k56_0) Try.f56.ntmps (fun x => mem x []) (L56_0 n) (finF Try.prog E Try.f56.results.toList [[(.ptr 0 0 50 [.keep])]] w56_0.alts) 4000 [.code (Try.f56.body.getD .skip)] (argSt (v56_0.enc v)) = F56_0 v := by kernel_rfl
theorem ok56_0 : FnOk Try.prog E 56 v56_0.enc F56_0 w56_0.enc :=
  fn_known (fn := Try.f56) (c := (Try.f56.body.getD .skip)) Try.func56 (by kernel_rfl) rfl envOk (oracle_ok k56_0) mixed v56_0 F56_0 w56_0 [(.ptr 0 0 50 [.keep])] [[(.ptr 0 0 50 [.keep])]] (by kernel_rfl) [] 4000 L56_0 (by kernel_rfl)
    (fun _ h => nomatch h) (fun v _ h => ⟨0, (e56_0 _ v).trans h⟩) (fun _ => by kernel_rfl) (fun _ => by kernel_rfl) (fun _ _ => by kernel_rfl)
/- (*chicane/fx.M).Add -/
abbrev A31_0 : Type := (Int × Int) × Bool
abbrev R31_0 : Type := Int × Bool
def v31_0 : Pk G ((Int × Int) × Bool) := (pk (Sh.snd (Sh.cons (Sh.ptr 0 0) (Sh.cons (Sh.int .i64) (Sh.fst (Sh.cons (Sh.int .i64) Sh.nil))))) (Sh.fst (Sh.hfix 0 50 (Sh.fst (Sh.cons Sh.bool Sh.nil)) Sh.hnil)))
def w31_0 : Wk G (Int × Bool) := (Wk.one [.keep] (pk (Sh.fst (Sh.cons (Sh.int .i64) Sh.nil)) (Sh.fst (Sh.hfix 0 50 (Sh.fst (Sh.cons Sh.bool Sh.nil)) Sh.hnil))))
def F31_0 (v : (Int × Int) × Bool) : Option (Int × Bool) :=
  (F62_0 v.1.1).bind fun r1327 =>
  (F62_0 v.1.2).bind fun r1328 =>
  (F63_0 (r1327, r1328)).bind fun r1329 =>
  (F64_0 (r1329.1, v.2)).bind fun r1330 =>
  some (r1330)

noncomputable def k31_0 : List (Known Try.prog E) := [Known.of envOk [1] [.keep] v62_0 F62_0 w62_0 ok62_0, Known.of envOk [9, 9] [(.agg [.keep, .keep]), (.agg [.keep, .keep])] v63_0 F63_0 w63_0 ok63_0, Known.of envOk [9, 165] [(.agg [.keep, .keep]), (.fn (.func 65) [(.ptr 0 0 50 [.keep])] [])] v64_0 F64_0 w64_0 ok64_0]
noncomputable def L31_0 (n id : Nat) (st : St G) : Option (Int × Bool) := none
set_option maxRecDepth 100000 in
theorem e31_0 (n : Nat) (v : (Int × Int) × Bool) : ev Try.prog E (oracle k31_0) Try.f31.ntmps (fun x => mem x []) (L31_0 n) (finF Try.prog E Try.f31.results.toList [[(.ptr 0 0 50 [.keep])]] w31_0.alts) 4000 [.code (Try.f31.body.getD .skip)] (argSt (v31_0.enc v)) = F31_0 v := by kernel_rfl
theorem ok31_0 : FnOk Try.prog E 31 v31_0.enc F31_0 w31_0.enc :=
  fn_known (fn := Try.f31) (c := (Try.f31.body.getD .skip)) Try.func31 (by kernel_rfl) rfl envOk (oracle_ok k31_0) mixed v31_0 F31_0 w31_0 [(.ptr 0 0 50 [.keep])] [[(.ptr 0 0 50 [.keep])]] (by kernel_rfl) [] 4000 L31_0 (by kernel_rfl)
    (fun _ h => nomatch h) (fun v _ h => ⟨0, (e31_0 _ v).trans h⟩) (fun _ => by kernel_rfl) (fun _ => by kernel_rfl) (fun _ _ => by kernel_rfl)
/- (*chicane/field.Field).Height -/
abbrev A21_0 : Type := (Int × Int) × Bool × (Int × Int × Int × Int × Int) × List Int × List Int
abbrev R21_0 : Type := Int × Bool × (Int × Int × Int × Int × Int) × List Int × List Int
def v21_0 : Pk G ((Int × Int) × Bool × (Int × Int × Int × Int × Int) × List Int × List Int) := (pk (Sh.snd (Sh.cons (Sh.ptr 0 0) (Sh.snd (Sh.cons (Sh.ptr 3 0) (Sh.cons (Sh.int .i64) (Sh.fst (Sh.cons (Sh.int .i64) Sh.nil))))))) (Sh.hfix 3 50 (Sh.fst (Sh.cons Sh.bool Sh.nil)) (Sh.hfix 0 91 (Sh.cons (Sh.int .i64) (Sh.cons (Sh.int .i64) (Sh.cons (Sh.int .i64) (Sh.cons (Sh.int .i64) (Sh.fst (Sh.cons (Sh.int .i64) (Sh.snd (Sh.cons (Sh.osl 1) (Sh.snd (Sh.cons (Sh.osl 2) Sh.nil)))))))))) (Sh.hrow 2 3 (Sh.fst (Sh.hrow 1 22 Sh.hnil))))))
def w21_0 : Wk G (Int × Bool × (Int × Int × Int × Int × Int) × List Int × List Int) := (Wk.one [.keep] (pk (Sh.fst (Sh.cons (Sh.int .i64) Sh.nil)) (Sh.hfix 3 50 (Sh.fst (Sh.cons Sh.bool Sh.nil)) (Sh.hfix 0 91 (Sh.cons (Sh.int .i64) (Sh.cons (Sh.int .i64) (Sh.cons (Sh.int .i64) (Sh.cons (Sh.int .i64) (Sh.fst (Sh.cons (Sh.int .i64) (Sh.snd (Sh.cons (Sh.osl 1) (Sh.snd (Sh.cons (Sh.osl 2) Sh.nil)))))))))) (Sh.hrow 1 22 (Sh.fst (Sh.hrow 2 3 Sh.hnil)))))))
def F21_0 (v : (Int × Int) × Bool × (Int × Int × Int × Int × Int) × List Int × List Int) : Option (Int × Bool × (Int × Int × Int × Int × Int) × List Int × List Int) :=
  (F15_0 (v.1, v.2.2)).bind fun r1341 =>
  (F19_0 ((r1341.1.1, (r1341.1.2.1, (decide (r1341.1.2.2.1 < r1341.1.2.2.2)))), (v.2.1, (r1341.2.1, (r1341.2.2.2, r1341.2.2.1))))).bind fun r1342 =>
  (F17_0 ((r1341.1.1, r1341.1.2.1), (r1342.2.2.1, (r1342.2.2.2.2, r1342.2.2.2.1)))).bind fun r1343 =>
  (F56_0 ((r1342.1.1, r1341.1.2.2.1), r1342.2.1)).bind fun r1344 =>
  (F31_0 ((r1343.1, r1344.1), r1344.2)).bind fun r1345 =>
  (F56_0 ((r1342.1.2, r1341.1.2.2.2), r1345.2)).bind fun r1346 =>
  (F31_0 ((r1345.1, r1346.1), r1346.2)).bind fun r1347 =>
  some (r1347.1, (r1347.2, r1343.2))

noncomputable def k21_0 : List (Known Try.prog E) := [Known.of envOk [5, 1, 1] [(.ptr 0 0 91 [.keep, .keep, .keep, .keep, .keep, (.own 1 22), (.own 2 3)]), .keep, .keep] v15_0 F15_0 w15_0 ok15_0, Known.of envOk [5, 5, 1, 1, 2] [(.ptr 0 0 91 [.keep, .keep, .keep, .keep, .keep, (.own 1 22), (.own 2 3)]), (.ptr 3 0 50 [.keep]), .keep, .keep, .keep] v19_0 F19_0 w19_0 ok19_0, Known.of envOk [5, 1, 1] [(.ptr 0 0 91 [.keep, .keep, .keep, .keep, .keep, (.own 1 22), (.own 2 3)]), .keep, .keep] v17_0 F17_0 w17_0 ok17_0, Known.of envOk [5, 1, 1] [(.ptr 0 0 50 [.keep]), .keep, .keep] v56_0 F56_0 w56_0 ok56_0, Known.of envOk [5, 1, 1] [(.ptr 0 0 50 [.keep]), .keep, .keep] v31_0 F31_0 w31_0 ok31_0]
noncomputable def L21_0 (n id : Nat) (st : St G) : Option (Int × Bool × (Int × Int × Int × Int × Int) × List Int × List Int) := none
set_option maxRecDepth 100000 in
theorem e21_0 (n : Nat) (v : (Int × Int) × Bool × (Int × Int × Int × Int × Int) × List Int × List Int) : ev Try.prog E (oracle k21_0) Try.f21.ntmps (fun x => mem x []) (L21_0 n) (finF Try.prog E Try.f21.results.toList [[(.own 2 3), (.own 1 22), (.ptr 0 0 91 [.keep, .keep, .keep, .keep, .keep, (.own 1 22), (.own 2 3)]), (.ptr 3 0 50 [.keep])]] w21_0.alts) 4000 [.code (Try.f21.body.getD .skip)] (argSt (v21_0.enc v)) = F21_0 v := by kernel_rfl
theorem ok21_0 : FnOk Try.prog E 21 v21_0.enc F21_0 w21_0.enc :=
  fn_known (fn := Try.f21) (c := (Try.f21.body.getD .skip)) Try.func21 (by kernel_rfl) rfl envOk (oracle_ok k21_0) mixed v21_0 F21_0 w21_0 [(.own 2 3), (.own 1 22), (.ptr 0 0 91 [.keep, .keep, .keep, .keep, .keep, (.own 1 22), (.own 2 3)]), (.ptr 3 0 50 [.keep])] [[(.own 2 3), (.own 1 22), (.ptr 0 0 91 [.keep, .keep, .keep, .keep, .keep, (.own 1 22), (.own 2 3)]), (.ptr 3 0 50 [.keep])]] (by kernel_rfl) [] 4000 L21_0 (by kernel_rfl)
    (fun _ h => nomatch h) (fun v _ h => ⟨0, (e21_0 _ v).trans h⟩) (fun _ => by kernel_rfl) (fun _ => by kernel_rfl) (fun _ _ => by kernel_rfl)
/- chicane/chicanelaw12.awake -/
abbrev A13_0 : Type := Unit
abbrev R13_0 : Type := Bool
def v13_0 : Pk G Unit := (Pk.snd (pk Sh.nil Sh.hnil))
def w13_0 : Wk G Bool := (Wk.one [.keep] (Pk.fst (pk (Sh.fst (Sh.cons Sh.bool Sh.nil)) Sh.hnil)))
def F13_0 (v : Unit) : Option Bool :=
  (F41_0 ()).bind fun r1366 =>
  (F14_0 (r1366.1.1, (r1366.1.2.1, (r1366.1.2.2.1, (r1366.1.2.2.2.1, (r1366.1.2.2.2.2.1, (r1366.1.2.2.2.2.2.1, (r1366.2.2.2, (r1366.2.2.1, (r1366.2.1, (([] : List (Int × Int)), (([] : List (List (Int × Int))), (([] : List (Int × Int × Int × Int × Bool)), r1366.1.2.2.2.2.2.2))))))))))))).bind fun r1367 =>
  match r1367 with
  | .inl r1368 =>
    bif (r1368 != (0 : Int)) then
      some (false)
    else
      some (false)
  | .inr r1369 =>
    bif (r1369.1 != (0 : Int)) then
      some (false)
    else
      (F14_0 ((0 : Int), ((0 : Int), ((0 : Int), ((0 : Int), ((0 : Int), ((0 : Int), (([] : List Int), (([] : List Int), (([] : List (Int × Int × Bool)), (([] : List (Int × Int)), (([] : List (List (Int × Int))), (([] : List (Int × Int × Int × Int × Bool)), ((0 : Int), ((0 : Int), ((0 : Int), (0 : Int))))))))))))))))).bind fun r1370 =>
      match r1370 with
      | .inl r1371 =>
        (F23_0 (((0 : Int), (0 : Int)), (false, r1369.2))).bind fun r1373 =>
        (F21_0 (((8589934592 : Int), (4294967296 : Int)), (r1373.2.1, (r1373.2.2.1, (r1373.2.2.2.2, r1373.2.2.2.1))))).bind fun r1374 =>
        bif (r1374.1 == (4294967296 : Int)) then
          (F21_0 (((12884901888 : Int), (17179869184 : Int)), (r1374.2.1, (r1374.2.2.1, (r1374.2.2.2.2, r1374.2.2.2.1))))).bind fun r1375 =>
          bif (r1375.1 == (12884901888 : Int)) then
            bif (r1371 == (42 : Int)) then
              bif (r1373.1.1 == (0 : Int)) then
                bif (decide (r1373.1.2.1 < (0 : Int))) then
                  bif (decide (r1373.1.2.2 > (2147483648 : Int))) then
                    some (!r1375.2.1)
                  else
                    some (false)
                else
                  some (false)
              else
                some (false)
            else
              some (false)
          else
            some (false)
        else
          some (false)
      | .inr r1372 =>
        (F23_0 (((0 : Int), (0 : Int)), (false, r1369.2))).bind fun r1376 =>
        (F21_0 (((8589934592 : Int), (4294967296 : Int)), (r1376.2.1, (r1376.2.2.1, (r1376.2.2.2.2, r1376.2.2.2.1))))).bind fun r1377 =>
        bif (r1377.1 == (4294967296 : Int)) then
          (F21_0 (((12884901888 : Int), (17179869184 : Int)), (r1377.2.1, (r1377.2.2.1, (r1377.2.2.2.2, r1377.2.2.2.1))))).bind fun r1378 =>
          bif (r1378.1 == (12884901888 : Int)) then
            bif (r1372.1 == (42 : Int)) then
              bif (r1376.1.1 == (0 : Int)) then
                bif (decide (r1376.1.2.1 < (0 : Int))) then
                  bif (decide (r1376.1.2.2 > (2147483648 : Int))) then
                    some (!r1378.2.1)
                  else
                    some (false)
                else
                  some (false)
              else
                some (false)
            else
              some (false)
          else
            some (false)
        else
          some (false)

noncomputable def k13_0 : List (Known Try.prog E) := [Known.of envOk [] [] v41_0 F41_0 w41_0 ok41_0, Known.of envOk [9] [(.agg [.keep, .keep, .keep, .keep, .keep, .keep, (.ros 22), (.ros 3), (.ros 86), (.ros 24), (.ros 28), (.ros 196), .keep, .keep, .keep, .keep])] v14_0 F14_0 w14_0 ok14_0, Known.of envOk [5, 5, 1, 1] [(.ptr 0 0 91 [.keep, .keep, .keep, .keep, .keep, (.own 1 22), (.own 2 3)]), (.ptr 3 0 50 [.keep]), .keep, .keep] v23_0 F23_0 w23_0 ok23_0, Known.of envOk [5, 5, 1, 1] [(.ptr 0 0 91 [.keep, .keep, .keep, .keep, .keep, (.own 1 22), (.own 2 3)]), (.ptr 3 0 50 [.keep]), .keep, .keep] v21_0 F21_0 w21_0 ok21_0]
noncomputable def L13_0 (n id : Nat) (st : St G) : Option Bool := none
set_option maxRecDepth 100000 in
theorem e13_0 (n : Nat) (v : Unit) : ev Try.prog E (oracle k13_0) Try.f13.ntmps (fun x => mem x []) (L13_0 n) (finF Try.prog E Try.f13.results.toList [[]] w13_0.alts) 4000 [.code (Try.f13.body.getD .skip)] (argSt (v13_0.enc v)) = F13_0 v := by kernel_rfl
theorem ok13_0 : FnOk Try.prog E 13 v13_0.enc F13_0 w13_0.enc :=
  fn_known (fn := Try.f13) (c := (Try.f13.body.getD .skip)) Try.func13 (by kernel_rfl) rfl envOk (oracle_ok k13_0) mixed v13_0 F13_0 w13_0 [] [[]] (by kernel_rfl) [] 4000 L13_0 (by kernel_rfl)
    (fun _ h => nomatch h) (fun v _ h => ⟨0, (e13_0 _ v).trans h⟩) (fun _ => by kernel_rfl) (fun _ => by kernel_rfl) (fun _ _ => by kernel_rfl)
/- chicane/chicaneref12.counts -/
abbrev A38_0 : Type := Int × Int × Int × Int × Int × Int × List Int × List Int × (List (Int × Int × Bool)) × (List (Int × Int)) × (List (List (Int × Int))) × (List (Int × Int × Int × Int × Bool)) × Int × Int × Int × Int
abbrev R38_0 : Type := Bool
def v38_0 : Pk G (Int × Int × Int × Int × Int × Int × List Int × List Int × (List (Int × Int × Bool)) × (List (Int × Int)) × (List (List (Int × Int))) × (List (Int × Int × Int × Int × Bool)) × Int × Int × Int × Int) := (Pk.fst (pk (Sh.fst (Sh.cons (Sh.agg (Sh.cons (Sh.int .i64) (Sh.cons (Sh.int .i64) (Sh.cons (Sh.int .i64) (Sh.cons (Sh.int .i64) (Sh.cons (Sh.int .i64) (Sh.cons (Sh.int .i64) (Sh.cons (Sh.ros 22) (Sh.cons (Sh.ros 3) (Sh.cons (Sh.ros 86) (Sh.cons (Sh.ros 24) (Sh.cons (Sh.ros 28) (Sh.cons (Sh.ros 196) (Sh.cons (Sh.int .i64) (Sh.cons (Sh.int .i64) (Sh.cons (Sh.int .u32) (Sh.fst (Sh.cons (Sh.int .i64) Sh.nil)))))))))))))))))) Sh.nil)) Sh.hnil))
def w38_0 : Wk G Bool := (Wk.one [.keep] (Pk.fst (pk (Sh.fst (Sh.cons Sh.bool Sh.nil)) Sh.hnil)))
def F38_0 (v : Int × Int × Int × Int × Int × Int × List Int × List Int × (List (Int × Int × Bool)) × (List (Int × Int)) × (List (List (Int × Int))) × (List (Int × Int × Int × Int × Bool)) × Int × Int × Int × Int) : Option Bool :=
  bif (decide (v.2.2.1 < (1 : Int))) then
    some (false)
  else
    bif (decide (v.2.2.1 > (64 : Int))) then
      some (false)
    else
      bif (decide (v.2.2.2.1 < (1 : Int))) then
        some (false)
      else
        bif (decide (v.2.2.2.1 > (64 : Int))) then
          some (false)
        else
          let x1388 : Int := (IntKind.wrap .i64 (v.2.2.1 + (1 : Int)))
          let x1389 : Int := (IntKind.wrap .i64 (v.2.2.2.1 + (1 : Int)))
          let x1390 : Int := (IntKind.wrap .i64 (x1388 * x1389))
          bif (((v.2.2.2.2.2.2.1).length : Int) == x1390) then
            let x1391 : Int := (IntKind.wrap .i64 (v.2.2.1 * v.2.2.2.1))
            bif (((v.2.2.2.2.2.2.2.1).length : Int) == x1391) then
              bif (decide (((v.2.2.2.2.2.2.2.2.1).length : Int) ≥ (1 : Int))) then
                some (decide (((v.2.2.2.2.2.2.2.2.1).length : Int) ≤ (8 : Int)))
              else
                some (false)
            else
              some (false)
          else
            some (false)

noncomputable def k38_0 : List (Known Try.prog E) := []
noncomputable def L38_0 (n id : Nat) (st : St G) : Option Bool := none
set_option maxRecDepth 100000 in
theorem e38_0 (n : Nat) (v : Int × Int × Int × Int × Int × Int × List Int × List Int × (List (Int × Int × Bool)) × (List (Int × Int)) × (List (List (Int × Int))) × (List (Int × Int × Int × Int × Bool)) × Int × Int × Int × Int) : ev Try.prog E (oracle k38_0) Try.f38.ntmps (fun x => mem x []) (L38_0 n) (finF Try.prog E Try.f38.results.toList [[]] w38_0.alts) 4000 [.code (Try.f38.body.getD .skip)] (argSt (v38_0.enc v)) = F38_0 v := by kernel_rfl
theorem ok38_0 : FnOk Try.prog E 38 v38_0.enc F38_0 w38_0.enc :=
  fn_known (fn := Try.f38) (c := (Try.f38.body.getD .skip)) Try.func38 (by kernel_rfl) rfl envOk (oracle_ok k38_0) mixed v38_0 F38_0 w38_0 [] [[]] (by kernel_rfl) [] 4000 L38_0 (by kernel_rfl)
    (fun _ h => nomatch h) (fun v _ h => ⟨0, (e38_0 _ v).trans h⟩) (fun _ => by kernel_rfl) (fun _ => by kernel_rfl) (fun _ _ => by kernel_rfl)
/- chicane/chicaneref12.in -/
abbrev A39_0 : Type := Int × Int × Int
abbrev R39_0 : Type := Bool
def v39_0 : Pk G (Int × Int × Int) := (Pk.fst (pk (Sh.cons (Sh.int .i64) (Sh.cons (Sh.int .i64) (Sh.fst (Sh.cons (Sh.int .i64) Sh.nil)))) Sh.hnil))
def w39_0 : Wk G Bool := (Wk.one [.keep] (Pk.fst (pk (Sh.fst (Sh.cons Sh.bool Sh.nil)) Sh.hnil)))
def F39_0 (v : Int × Int × Int) : Option Bool :=
  bif (decide (v.1 ≥ v.2.1)) then
    some (decide (v.1 ≤ v.2.2))
  else
    some (false)

noncomputable def k39_0 : List (Known Try.prog E) := []
noncomputable def L39_0 (n id : Nat) (st : St G) : Option Bool := none
set_option maxRecDepth 100000 in
theorem e39_0 (n : Nat) (v : Int × Int × Int) : ev Try.prog E (oracle k39_0) Try.f39.ntmps (fun x => mem x []) (L39_0 n) (finF Try.prog E Try.f39.results.toList [[]] w39_0.alts) 4000 [.code (Try.f39.body.getD .skip)] (argSt (v39_0.enc v)) = F39_0 v := by kernel_rfl
theorem ok39_0 : FnOk Try.prog E 39 v39_0.enc F39_0 w39_0.enc :=
  fn_known (fn := Try.f39) (c := (Try.f39.body.getD .skip)) Try.func39 (by kernel_rfl) rfl envOk (oracle_ok k39_0) mixed v39_0 F39_0 w39_0 [] [[]] (by kernel_rfl) [] 4000 L39_0 (by kernel_rfl)
    (fun _ h => nomatch h) (fun v _ h => ⟨0, (e39_0 _ v).trans h⟩) (fun _ => by kernel_rfl) (fun _ => by kernel_rfl) (fun _ _ => by kernel_rfl)
/- chicane/chicaneref12.heights -/
abbrev A40_0 : Type := Int × Int × Int × Int × Int × Int × List Int × List Int × (List (Int × Int × Bool)) × (List (Int × Int)) × (List (List (Int × Int))) × (List (Int × Int × Int × Int × Bool)) × Int × Int × Int × Int
abbrev R40_0 : Type := Bool
def v40_0 : Pk G (Int × Int × Int × Int × Int × Int × List Int × List Int × (List (Int × Int × Bool)) × (List (Int × Int)) × (List (List (Int × Int))) × (List (Int × Int × Int × Int × Bool)) × Int × Int × Int × Int) := (Pk.fst (pk (Sh.fst (Sh.cons (Sh.agg (Sh.cons (Sh.int .i64) (Sh.cons (Sh.int .i64) (Sh.cons (Sh.int .i64) (Sh.cons (Sh.int .i64) (Sh.cons (Sh.int .i64) (Sh.cons (Sh.int .i64) (Sh.cons (Sh.ros 22) (Sh.cons (Sh.ros 3) (Sh.cons (Sh.ros 86) (Sh.cons (Sh.ros 24) (Sh.cons (Sh.ros 28) (Sh.cons (Sh.ros 196) (Sh.cons (Sh.int .i64) (Sh.cons (Sh.int .i64) (Sh.cons (Sh.int .u32) (Sh.fst (Sh.cons (Sh.int .i64) Sh.nil)))))))))))))))))) Sh.nil)) Sh.hnil))
def w40_0 : Wk G Bool := (Wk.one [.keep] (Pk.fst (pk (Sh.fst (Sh.cons Sh.bool Sh.nil)) Sh.hnil)))
def c40_0_2 : Pk G (Int × Int × Int × Int × Int × Int × Int × List Int × List Int × (List (Int × Int × Bool)) × (List (Int × Int)) × (List (List (Int × Int))) × (List (Int × Int × Int × Int × Bool)) × Int × Int × Int × Int) := (pk (Sh.snd (Sh.cons (Sh.ptr 0 0) (Sh.fst (Sh.cons (Sh.int .i64) Sh.nil)))) (Sh.fst (Sh.hfix 0 34 (Sh.cons (Sh.int .i64) (Sh.cons (Sh.int .i64) (Sh.cons (Sh.int .i64) (Sh.cons (Sh.int .i64) (Sh.cons (Sh.int .i64) (Sh.cons (Sh.int .i64) (Sh.cons (Sh.ros 22) (Sh.cons (Sh.ros 3) (Sh.cons (Sh.ros 86) (Sh.cons (Sh.ros 24) (Sh.cons (Sh.ros 28) (Sh.cons (Sh.ros 196) (Sh.cons (Sh.int .i64) (Sh.cons (Sh.int .i64) (Sh.cons (Sh.int .u32) (Sh.fst (Sh.cons (Sh.int .i64) Sh.nil))))))))))))))))) Sh.hnil)))
def c40_0_7 : Pk G (Int × Int × Int × Int × Int × Int × Int × List Int × List Int × (List (Int × Int × Bool)) × (List (Int × Int)) × (List (List (Int × Int))) × (List (Int × Int × Int × Int × Bool)) × Int × Int × Int × Int) := (pk (Sh.snd (Sh.cons (Sh.ptr 0 0) (Sh.fst (Sh.cons (Sh.int .i64) Sh.nil)))) (Sh.fst (Sh.hfix 0 34 (Sh.cons (Sh.int .i64) (Sh.cons (Sh.int .i64) (Sh.cons (Sh.int .i64) (Sh.cons (Sh.int .i64) (Sh.cons (Sh.int .i64) (Sh.cons (Sh.int .i64) (Sh.cons (Sh.ros 22) (Sh.cons (Sh.ros 3) (Sh.cons (Sh.ros 86) (Sh.cons (Sh.ros 24) (Sh.cons (Sh.ros 28) (Sh.cons (Sh.ros 196) (Sh.cons (Sh.int .i64) (Sh.cons (Sh.int .i64) (Sh.cons (Sh.int .u32) (Sh.fst (Sh.cons (Sh.int .i64) Sh.nil))))))))))))))))) Sh.hnil)))
def B40_0_2 (K : ((Int × Int × Int × Int × Int × Int × Int × List Int × List Int × (List (Int × Int × Bool)) × (List (Int × Int)) × (List (List (Int × Int))) × (List (Int × Int × Int × Int × Bool)) × Int × Int × Int × Int) → Option Bool) × ((Int × Int × Int × Int × Int × Int × Int × List Int × List Int × (List (Int × Int × Bool)) × (List (Int × Int)) × (List (List (Int × Int))) × (List (Int × Int × Int × Int × Bool)) × Int × Int × Int × Int) → Option Bool)) (v : Int × Int × Int × Int × Int × Int × Int × List Int × List Int × (List (Int × Int × Bool)) × (List (Int × Int)) × (List (List (Int × Int))) × (List (Int × Int × Int × Int × Bool)) × Int × Int × Int × Int) : Option Bool :=
  bif (decide (v.1 < ((v.2.2.2.2.2.2.2.1).length : Int))) then
    (rdx v.2.2.2.2.2.2.2.1 v.1).bind fun (x1466 : Int) =>
    (F39_0 (x1466, ((-2199023255552 : Int), (2199023255552 : Int)))).bind fun r1467 =>
    bif (!r1467) then
      some (false)
    else
      let x1468 : Int := (IntKind.wrap .i64 (v.1 + (1 : Int)))
      K.1 (x1468, v.2)
  else
    K.2 ((0 : Int), v.2)

def B40_0_7 (K : ((Int × Int × Int × Int × Int × Int × Int × List Int × List Int × (List (Int × Int × Bool)) × (List (Int × Int)) × (List (List (Int × Int))) × (List (Int × Int × Int × Int × Bool)) × Int × Int × Int × Int) → Option Bool) × ((Int × Int × Int × Int × Int × Int × Int × List Int × List Int × (List (Int × Int × Bool)) × (List (Int × Int)) × (List (List (Int × Int))) × (List (Int × Int × Int × Int × Bool)) × Int × Int × Int × Int) → Option Bool)) (v : Int × Int × Int × Int × Int × Int × Int × List Int × List Int × (List (Int × Int × Bool)) × (List (Int × Int)) × (List (List (Int × Int))) × (List (Int × Int × Int × Int × Bool)) × Int × Int × Int × Int) : Option Bool :=
  bif (decide (v.1 < ((v.2.2.2.2.2.2.2.1).length : Int))) then
    let x1469 : Int := (IntKind.wrap .i64 (v.2.2.2.1 + (1 : Int)))
    (chk (x1469 != 0)).bind fun _ =>
    let x1470 : Int := (Int.tmod v.1 x1469)
    bif (decide (x1470 < v.2.2.2.1)) then
      let x1471 : Int := (IntKind.wrap .i64 (v.1 + (1 : Int)))
      (rdx v.2.2.2.2.2.2.2.1 x1471).bind fun (x1472 : Int) =>
      (rdx v.2.2.2.2.2.2.2.1 v.1).bind fun (x1473 : Int) =>
      let x1474 : Int := (IntKind.wrap .i64 (x1472 - x1473))
      let x1475 : Int := (IntKind.wrap .i64 (0 - v.2.2.1))
      (F39_0 (x1474, (x1475, v.2.2.1))).bind fun r1476 =>
      bif (!r1476) then
        some (false)
      else
        let x1477 : Int := (IntKind.wrap .i64 (v.2.2.2.1 + (1 : Int)))
        (chk (x1477 != 0)).bind fun _ =>
        let x1478 : Int := (IntKind.wrap .i64 (Int.tdiv v.1 x1477))
        bif (decide (x1478 < v.2.2.2.2.1)) then
          let x1479 : Int := (IntKind.wrap .i64 (v.1 + v.2.2.2.1))
          let x1480 : Int := (IntKind.wrap .i64 (x1479 + (1 : Int)))
          (rdx v.2.2.2.2.2.2.2.1 x1480).bind fun (x1481 : Int) =>
          (rdx v.2.2.2.2.2.2.2.1 v.1).bind fun (x1482 : Int) =>
          let x1483 : Int := (IntKind.wrap .i64 (x1481 - x1482))
          let x1484 : Int := (IntKind.wrap .i64 (0 - v.2.2.1))
          (F39_0 (x1483, (x1484, v.2.2.1))).bind fun r1485 =>
          bif (!r1485) then
            some (false)
          else
            let x1486 : Int := (IntKind.wrap .i64 (v.1 + (1 : Int)))
            K.2 (x1486, v.2)
        else
          let x1487 : Int := (IntKind.wrap .i64 (v.1 + (1 : Int)))
          K.2 (x1487, v.2)
    else
      let x1488 : Int := (IntKind.wrap .i64 (v.2.2.2.1 + (1 : Int)))
      (chk (x1488 != 0)).bind fun _ =>
      let x1489 : Int := (IntKind.wrap .i64 (Int.tdiv v.1 x1488))
      bif (decide (x1489 < v.2.2.2.2.1)) then
        let x1490 : Int := (IntKind.wrap .i64 (v.1 + v.2.2.2.1))
        let x1491 : Int := (IntKind.wrap .i64 (x1490 + (1 : Int)))
        (rdx v.2.2.2.2.2.2.2.1 x1491).bind fun (x1492 : Int) =>
        (rdx v.2.2.2.2.2.2.2.1 v.1).bind fun (x1493 : Int) =>
        let x1494 : Int := (IntKind.wrap .i64 (x1492 - x1493))
        let x1495 : Int := (IntKind.wrap .i64 (0 - v.2.2.1))
        (F39_0 (x1494, (x1495, v.2.2.1))).bind fun r1496 =>
        bif (!r1496) then
          some (false)
        else
          let x1497 : Int := (IntKind.wrap .i64 (v.1 + (1 : Int)))
          K.2 (x1497, v.2)
      else
        let x1498 : Int := (IntKind.wrap .i64 (v.1 + (1 : Int)))
        K.2 (x1498, v.2)
  else
    some (true)

def E40_0 (K : ((Int × Int × Int × Int × Int × Int × Int × List Int × List Int × (List (Int × Int × Bool)) × (List (Int × Int)) × (List (List (Int × Int))) × (List (Int × Int × Int × Int × Bool)) × Int × Int × Int × Int) → Option Bool) × ((Int × Int × Int × Int × Int × Int × Int × List Int × List Int × (List (Int × Int × Bool)) × (List (Int × Int)) × (List (List (Int × Int))) × (List (Int × Int × Int × Int × Bool)) × Int × Int × Int × Int) → Option Bool)) (v : Int × Int × Int × Int × Int × Int × List Int × List Int × (List (Int × Int × Bool)) × (List (Int × Int)) × (List (List (Int × Int))) × (List (Int × Int × Int × Int × Bool)) × Int × Int × Int × Int) : Option Bool :=
  K.1 ((0 : Int), v)

def K40_0 : Nat → ((Int × Int × Int × Int × Int × Int × Int × List Int × List Int × (List (Int × Int × Bool)) × (List (Int × Int)) × (List (List (Int × Int))) × (List (Int × Int × Int × Int × Bool)) × Int × Int × Int × Int) → Option Bool) × ((Int × Int × Int × Int × Int × Int × Int × List Int × List Int × (List (Int × Int × Bool)) × (List (Int × Int)) × (List (List (Int × Int))) × (List (Int × Int × Int × Int × Bool)) × Int × Int × Int × Int) → Option Bool)
  | 0 => (fun _ => none, fun _ => none)
  | n + 1 => (B40_0_2 (K40_0 n), B40_0_7 (K40_0 n))
def fuel40_0 (v : Int × Int × Int × Int × Int × Int × List Int × List Int × (List (Int × Int × Bool)) × (List (Int × Int)) × (List (List (Int × Int))) × (List (Int × Int × Int × Int × Bool)) × Int × Int × Int × Int) : Nat := 3000
def F40_0 (v : Int × Int × Int × Int × Int × Int × List Int × List Int × (List (Int × Int × Bool)) × (List (Int × Int)) × (List (List (Int × Int))) × (List (Int × Int × Int × Int × Bool)) × Int × Int × Int × Int) : Option Bool := E40_0 (K40_0 (fuel40_0 v)) v
noncomputable def k40_0 : List (Known Try.prog E) := [Known.of envOk [1, 1, 1] [.keep, .keep, .keep] v39_0 F39_0 w39_0 ok39_0]
def s40_0_7 : List (Nat × Pat) := [(1, (.ptr 0 0 34 [.keep, .keep, .keep, .keep, .keep, .keep, (.ros 22), (.ros 3), (.ros 86), (.ros 24), (.ros 28), (.ros 196), .keep, .keep, .keep, .keep])), (4, .keep)]
def s40_0_2 : List (Nat × Pat) := [(1, (.ptr 0 0 34 [.keep, .keep, .keep, .keep, .keep, .keep, (.ros 22), (.ros 3), (.ros 86), (.ros 24), (.ros 28), (.ros 196), .keep, .keep, .keep, .keep])), (3, .keep)]
noncomputable def L40_0 (n id : Nat) (st : St G) : Option Bool := match Nat.beq id 2 with | true => cutK Try.prog s40_0_2 [] c40_0_2.dec (K40_0 n).1 st | false => match Nat.beq id 7 with | true => cutK Try.prog s40_0_7 [] c40_0_7.dec (K40_0 n).2 st | false => none
set_option maxRecDepth 100000 in
theorem e40_0 (n : Nat) (v : Int × Int × Int × Int × Int × Int × List Int × List Int × (List (Int × Int × Bool)) × (List (Int × Int)) × (List (List (Int × Int))) × (List (Int × Int × Int × Int × Bool)) × Int × Int × Int × Int) : ev Try.prog E (oracle k40_0) Try.f40.ntmps (fun x => mem x [2, 7]) (L40_0 n) (finF Try.prog E Try.f40.results.toList [[]] w40_0.alts) 4000 [.code (Try.f40.body.getD .skip)] (argSt (v40_0.enc v)) = E40_0 (K40_0 n) v := by kernel_rfl
set_option maxRecDepth 100000 in
theorem b40_0_2 (n : Nat) (v : Int × Int × Int × Int × Int × Int × Int × List Int × List Int × (List (Int × Int × Bool)) × (List (Int × Int)) × (List (List (Int × Int))) × (List (Int × Int × Int × Int × Bool)) × Int × Int × Int × Int) : evCut Try.prog E (oracle k40_0) false 40 Try.f40.ntmps (fun x => mem x [2, 7]) (L40_0 n) (finF Try.prog E Try.f40.results.toList [[]] w40_0.alts) 4000 (todoAt (Try.f40.body.getD .skip) 2) (cutSt s40_0_2 (c40_0_2.enc v)) = B40_0_2 (K40_0 n) v := by kernel_rfl
set_option maxRecDepth 100000 in
theorem b40_0_7 (n : Nat) (v : Int × Int × Int × Int × Int × Int × Int × List Int × List Int × (List (Int × Int × Bool)) × (List (Int × Int)) × (List (List (Int × Int))) × (List (Int × Int × Int × Int × Bool)) × Int × Int × Int × Int) : evCut Try.prog E (oracle k40_0) false 40 Try.f40.ntmps (fun x => mem x [2, 7]) (L40_0 n) (finF Try.prog E Try.f40.results.toList [[]] w40_0.alts) 4000 (todoAt (Try.f40.body.getD .skip) 7) (cutSt s40_0_7 (c40_0_7.enc v)) = B40_0_7 (K40_0 n) v := by kernel_rfl
theorem ok40_0 : FnOk Try.prog E 40 v40_0.enc F40_0 w40_0.enc :=
  fn_known (fn := Try.f40) (c := (Try.f40.body.getD .skip)) Try.func40 (by kernel_rfl) rfl envOk (oracle_ok k40_0) mixed v40_0 F40_0 w40_0 [] [[]] (by kernel_rfl) [2, 7] 4000 L40_0 (by kernel_rfl)
    (List.forall_mem_cons.2 ⟨⟨_, [], s40_0_2, c40_0_2.dec, c40_0_2.enc, fun n => (K40_0 n).1, c40_0_2.ok, fun _ _ => rfl, fun _ => rfl, by kernel_rfl, fun n v _ h => (b40_0_2 n v).trans h⟩, List.forall_mem_cons.2 ⟨⟨_, [], s40_0_7, c40_0_7.dec, c40_0_7.enc, fun n => (K40_0 n).2, c40_0_7.ok, fun _ _ => rfl, fun _ => rfl, by kernel_rfl, fun n v _ h => (b40_0_7 n v).trans h⟩, fun _ h => (nomatch h)⟩⟩) (fun v _ h => ⟨fuel40_0 v, (e40_0 _ v).trans h⟩) (fun _ => by kernel_rfl) (fun _ => by kernel_rfl) (fun _ _ => by kernel_rfl)
/- chicane/chicaneref12.Right -/
abbrev A12_0 : Type := Int × Int × Int × Int × Int × Int × List Int × List Int × (List (Int × Int × Bool)) × (List (Int × Int)) × (List (List (Int × Int))) × (List (Int × Int × Int × Int × Bool)) × Int × Int × Int × Int
abbrev R12_0 : Type := Int
def v12_0 : Pk G (Int × Int × Int × Int × Int × Int × List Int × List Int × (List (Int × Int × Bool)) × (List (Int × Int)) × (List (List (Int × Int))) × (List (Int × Int × Int × Int × Bool)) × Int × Int × Int × Int) := (Pk.fst (pk (Sh.fst (Sh.cons (Sh.agg (Sh.cons (Sh.int .i64) (Sh.cons (Sh.int .i64) (Sh.cons (Sh.int .i64) (Sh.cons (Sh.int .i64) (Sh.cons (Sh.int .i64) (Sh.cons (Sh.int .i64) (Sh.cons (Sh.ros 22) (Sh.cons (Sh.ros 3) (Sh.cons (Sh.ros 86) (Sh.cons (Sh.ros 24) (Sh.cons (Sh.ros 28) (Sh.cons (Sh.ros 196) (Sh.cons (Sh.int .i64) (Sh.cons (Sh.int .i64) (Sh.cons (Sh.int .u32) (Sh.fst (Sh.cons (Sh.int .i64) Sh.nil)))))))))))))))))) Sh.nil)) Sh.hnil))
def w12_0 : Wk G Int := (Wk.one [.keep] (Pk.fst (pk (Sh.fst (Sh.cons (Sh.int .i64) Sh.nil)) Sh.hnil)))
def c12_0_6 : Pk G (Int × Int × Int × Int × Int × Int × Int × List Int × List Int × (List (Int × Int × Bool)) × (List (Int × Int)) × (List (List (Int × Int))) × (List (Int × Int × Int × Int × Bool)) × Int × Int × Int × Int) := (pk (Sh.snd (Sh.cons (Sh.ptr 0 0) (Sh.fst (Sh.cons (Sh.int .i64) Sh.nil)))) (Sh.fst (Sh.hfix 0 34 (Sh.cons (Sh.int .i64) (Sh.cons (Sh.int .i64) (Sh.cons (Sh.int .i64) (Sh.cons (Sh.int .i64) (Sh.cons (Sh.int .i64) (Sh.cons (Sh.int .i64) (Sh.cons (Sh.ros 22) (Sh.cons (Sh.ros 3) (Sh.cons (Sh.ros 86) (Sh.cons (Sh.ros 24) (Sh.cons (Sh.ros 28) (Sh.cons (Sh.ros 196) (Sh.cons (Sh.int .i64) (Sh.cons (Sh.int .i64) (Sh.cons (Sh.int .u32) (Sh.fst (Sh.cons (Sh.int .i64) Sh.nil))))))))))))))))) Sh.hnil)))
def c12_0_11 : Pk G (Int × Int × Int × Int × Int × Int × Int × List Int × List Int × (List (Int × Int × Bool)) × (List (Int × Int)) × (List (List (Int × Int))) × (List (Int × Int × Int × Int × Bool)) × Int × Int × Int × Int) := (pk (Sh.snd (Sh.cons (Sh.ptr 0 0) (Sh.fst (Sh.cons (Sh.int .i64) Sh.nil)))) (Sh.fst (Sh.hfix 0 34 (Sh.cons (Sh.int .i64) (Sh.cons (Sh.int .i64) (Sh.cons (Sh.int .i64) (Sh.cons (Sh.int .i64) (Sh.cons (Sh.int .i64) (Sh.cons (Sh.int .i64) (Sh.cons (Sh.ros 22) (Sh.cons (Sh.ros 3) (Sh.cons (Sh.ros 86) (Sh.cons (Sh.ros 24) (Sh.cons (Sh.ros 28) (Sh.cons (Sh.ros 196) (Sh.cons (Sh.int .i64) (Sh.cons (Sh.int .i64) (Sh.cons (Sh.int .u32) (Sh.fst (Sh.cons (Sh.int .i64) Sh.nil))))))))))))))))) Sh.hnil)))
def B12_0_6 (K : ((Int × Int × Int × Int × Int × Int × Int × List Int × List Int × (List (Int × Int × Bool)) × (List (Int × Int)) × (List (List (Int × Int))) × (List (Int × Int × Int × Int × Bool)) × Int × Int × Int × Int) → Option Int) × ((Int × Int × Int × Int × Int × Int × Int × List Int × List Int × (List (Int × Int × Bool)) × (List (Int × Int)) × (List (List (Int × Int))) × (List (Int × Int × Int × Int × Bool)) × Int × Int × Int × Int) → Option Int)) (v : Int × Int × Int × Int × Int × Int × Int × List Int × List Int × (List (Int × Int × Bool)) × (List (Int × Int)) × (List (List (Int × Int))) × (List (Int × Int × Int × Int × Bool)) × Int × Int × Int × Int) : Option Int :=
  bif (decide (v.1 < ((v.2.2.2.2.2.2.2.2.1).length : Int))) then
    (rdx v.2.2.2.2.2.2.2.2.1 v.1).bind fun (x1530 : Int) =>
    bif (decide (x1530 < (0 : Int))) then
      some (40 : Int)
    else
      (rdx v.2.2.2.2.2.2.2.2.1 v.1).bind fun (x1531 : Int) =>
      bif (decide (x1531 ≥ ((v.2.2.2.2.2.2.2.2.2.1).length : Int))) then
        some (40 : Int)
      else
        let x1532 : Int := (IntKind.wrap .i64 (v.1 + (1 : Int)))
        K.1 (x1532, v.2)
  else
    K.2 ((0 : Int), v.2)

def B12_0_11 (K : ((Int × Int × Int × Int × Int × Int × Int × List Int × List Int × (List (Int × Int × Bool)) × (List (Int × Int)) × (List (List (Int × Int))) × (List (Int × Int × Int × Int × Bool)) × Int × Int × Int × Int) → Option Int) × ((Int × Int × Int × Int × Int × Int × Int × List Int × List Int × (List (Int × Int × Bool)) × (List (Int × Int)) × (List (List (Int × Int))) × (List (Int × Int × Int × Int × Bool)) × Int × Int × Int × Int) → Option Int)) (v : Int × Int × Int × Int × Int × Int × Int × List Int × List Int × (List (Int × Int × Bool)) × (List (Int × Int)) × (List (List (Int × Int))) × (List (Int × Int × Int × Int × Bool)) × Int × Int × Int × Int) : Option Int :=
  bif (decide (v.1 < ((v.2.2.2.2.2.2.2.2.2.1).length : Int))) then
    (rdx v.2.2.2.2.2.2.2.2.2.1 v.1).bind fun (x1533 : Int × Int × Bool) =>
    (F39_0 (x1533.1, ((0 : Int), (8589934592 : Int)))).bind fun r1534 =>
    bif (!r1534) then
      some (40 : Int)
    else
      (rdx v.2.2.2.2.2.2.2.2.2.1 v.1).bind fun (x1535 : Int × Int × Bool) =>
      (F39_0 (x1535.2.1, ((0 : Int), (4294967296 : Int)))).bind fun r1536 =>
      bif (!r1536) then
        some (40 : Int)
      else
        let x1537 : Int := (IntKind.wrap .i64 (v.1 + (1 : Int)))
        K.2 (x1537, v.2)
  else
    some (0 : Int)

def E12_0 (K : ((Int × Int × Int × Int × Int × Int × Int × List Int × List Int × (List (Int × Int × Bool)) × (List (Int × Int)) × (List (List (Int × Int))) × (List (Int × Int × Int × Int × Bool)) × Int × Int × Int × Int) → Option Int) × ((Int × Int × Int × Int × Int × Int × Int × List Int × List Int × (List (Int × Int × Bool)) × (List (Int × Int)) × (List (List (Int × Int))) × (List (Int × Int × Int × Int × Bool)) × Int × Int × Int × Int) → Option Int)) (v : Int × Int × Int × Int × Int × Int × List Int × List Int × (List (Int × Int × Bool)) × (List (Int × Int)) × (List (List (Int × Int))) × (List (Int × Int × Int × Int × Bool)) × Int × Int × Int × Int) : Option Int :=
  (F38_0 v).bind fun r1525 =>
  bif (!r1525) then
    some (42 : Int)
  else
    (F39_0 (v.2.1, ((17179869184 : Int), (274877906944 : Int)))).bind fun r1526 =>
    bif (!r1526) then
      some (40 : Int)
    else
      (F39_0 (v.2.2.2.2.1, ((-140737488355328 : Int), (140737488355328 : Int)))).bind fun r1527 =>
      bif (!r1527) then
        some (40 : Int)
      else
        (F39_0 (v.2.2.2.2.2.1, ((-140737488355328 : Int), (140737488355328 : Int)))).bind fun r1528 =>
        bif (!r1528) then
          some (40 : Int)
        else
          (F40_0 v).bind fun r1529 =>
          bif (!r1529) then
            some (40 : Int)
          else
            K.1 ((0 : Int), v)

def K12_0 : Nat → ((Int × Int × Int × Int × Int × Int × Int × List Int × List Int × (List (Int × Int × Bool)) × (List (Int × Int)) × (List (List (Int × Int))) × (List (Int × Int × Int × Int × Bool)) × Int × Int × Int × Int) → Option Int) × ((Int × Int × Int × Int × Int × Int × Int × List Int × List Int × (List (Int × Int × Bool)) × (List (Int × Int)) × (List (List (Int × Int))) × (List (Int × Int × Int × Int × Bool)) × Int × Int × Int × Int) → Option Int)
  | 0 => (fun _ => none, fun _ => none)
  | n + 1 => (B12_0_6 (K12_0 n), B12_0_11 (K12_0 n))
def fuel12_0 (v : Int × Int × Int × Int × Int × Int × List Int × List Int × (List (Int × Int × Bool)) × (List (Int × Int)) × (List (List (Int × Int))) × (List (Int × Int × Int × Int × Bool)) × Int × Int × Int × Int) : Nat := 1300
def F12_0 (v : Int × Int × Int × Int × Int × Int × List Int × List Int × (List (Int × Int × Bool)) × (List (Int × Int)) × (List (List (Int × Int))) × (List (Int × Int × Int × Int × Bool)) × Int × Int × Int × Int) : Option Int := E12_0 (K12_0 (fuel12_0 v)) v
noncomputable def k12_0 : List (Known Try.prog E) := [Known.of envOk [9] [(.agg [.keep, .keep, .keep, .keep, .keep, .keep, (.ros 22), (.ros 3), (.ros 86), (.ros 24), (.ros 28), (.ros 196), .keep, .keep, .keep, .keep])] v38_0 F38_0 w38_0 ok38_0, Known.of envOk [1, 1, 1] [.keep, .keep, .keep] v39_0 F39_0 w39_0 ok39_0, Known.of envOk [9] [(.agg [.keep, .keep, .keep, .keep, .keep, .keep, (.ros 22), (.ros 3), (.ros 86), (.ros 24), (.ros 28), (.ros 196), .keep, .keep, .keep, .keep])] v40_0 F40_0 w40_0 ok40_0]
def s12_0_11 : List (Nat × Pat) := [(1, (.ptr 0 0 34 [.keep, .keep, .keep, .keep, .keep, .keep, (.ros 22), (.ros 3), (.ros 86), (.ros 24), (.ros 28), (.ros 196), .keep, .keep, .keep, .keep])), (4, .keep)]
def s12_0_6 : List (Nat × Pat) := [(1, (.ptr 0 0 34 [.keep, .keep, .keep, .keep, .keep, .keep, (.ros 22), (.ros 3), (.ros 86), (.ros 24), (.ros 28), (.ros 196), .keep, .keep, .keep, .keep])), (3, .keep)]
noncomputable def L12_0 (n id : Nat) (st : St G) : Option Int := match Nat.beq id 6 with | true => cutK Try.prog s12_0_6 [] c12_0_6.dec (K12_0 n).1 st | false => match Nat.beq id 11 with | true => cutK Try.prog s12_0_11 [] c12_0_11.dec (K12_0 n).2 st | false => none
set_option maxRecDepth 100000 in
theorem e12_0 (n : Nat) (v : Int × Int × Int × Int × Int × Int × List Int × List Int × (List (Int × Int × Bool)) × (List (Int × Int)) × (List (List (Int × Int))) × (List (Int × Int × Int × Int × Bool)) × Int × Int × Int × Int) : ev Try.prog E (oracle k12_0) Try.f12.ntmps (fun x => mem x [6, 11]) (L12_0 n) (finF Try.prog E Try.f12.results.toList [[]] w12_0.alts) 4000 [.code (Try.f12.body.getD .skip)] (argSt (v12_0.enc v)) = E12_0 (K12_0 n) v := by kernel_rfl
set_option maxRecDepth 100000 in
theorem b12_0_6 (n : Nat) (v : Int × Int × Int × Int × Int × Int × Int × List Int × List Int × (List (Int × Int × Bool)) × (List (Int × Int)) × (List (List (Int × Int))) × (List (Int × Int × Int × Int × Bool)) × Int × Int × Int × Int) : evCut Try.prog E (oracle k12_0) false 12 Try.f12.ntmps (fun x => mem x [6, 11]) (L12_0 n) (finF Try.prog E Try.f12.results.toList [[]] w12_0.alts) 4000 (todoAt (Try.f12.body.getD .skip) 6) (cutSt s12_0_6 (c12_0_6.enc v)) = B12_0_6 (K12_0 n) v := by kernel_rfl
set_option maxRecDepth 100000 in
theorem b12_0_11 (n : Nat) (v : Int × Int × Int × Int × Int × Int × Int × List Int × List Int × (List (Int × Int × Bool)) × (List (Int × Int)) × (List (List (Int × Int))) × (List (Int × Int × Int × Int × Bool)) × Int × Int × Int × Int) : evCut Try.prog E (oracle k12_0) false 12 Try.f12.ntmps (fun x => mem x [6, 11]) (L12_0 n) (finF Try.prog E Try.f12.results.toList [[]] w12_0.alts) 4000 (todoAt (Try.f12.body.getD .skip) 11) (cutSt s12_0_11 (c12_0_11.enc v)) = B12_0_11 (K12_0 n) v := by kernel_rfl
theorem ok12_0 : FnOk Try.prog E 12 v12_0.enc F12_0 w12_0.enc :=
  fn_known (fn := Try.f12) (c := (Try.f12.body.getD .skip)) Try.func12 (by kernel_rfl) rfl envOk (oracle_ok k12_0) mixed v12_0 F12_0 w12_0 [] [[]] (by kernel_rfl) [6, 11] 4000 L12_0 (by kernel_rfl)
    (List.forall_mem_cons.2 ⟨⟨_, [], s12_0_6, c12_0_6.dec, c12_0_6.enc, fun n => (K12_0 n).1, c12_0_6.ok, fun _ _ => rfl, fun _ => rfl, by kernel_rfl, fun n v _ h => (b12_0_6 n v).trans h⟩, List.forall_mem_cons.2 ⟨⟨_, [], s12_0_11, c12_0_11.dec, c12_0_11.enc, fun n => (K12_0 n).2, c12_0_11.ok, fun _ _ => rfl, fun _ => rfl, by kernel_rfl, fun n v _ h => (b12_0_11 n v).trans h⟩, fun _ h => (nomatch h)⟩⟩) (fun v _ h => ⟨fuel12_0 v, (e12_0 _ v).trans h⟩) (fun _ => by kernel_rfl) (fun _ => by kernel_rfl) (fun _ _ => by kernel_rfl)
/- chicane/chicaneref02.Clamp -/
abbrev A81_0 : Type := Int × Int × Int
abbrev R81_0 : Type := Int
def v81_0 : Pk G (Int × Int × Int) := (Pk.fst (pk (Sh.cons (Sh.int .i64) (Sh.cons (Sh.int .i64) (Sh.fst (Sh.cons (Sh.int .i64) Sh.nil)))) Sh.hnil))
def w81_0 : Wk G Int := (Wk.one [.keep] (Pk.fst (pk (Sh.fst (Sh.cons (Sh.int .i64) Sh.nil)) Sh.hnil)))
def F81_0 (v : Int × Int × Int) : Option Int :=
  bif (decide (v.1 < v.2.1)) then
    some (v.2.1)
  else
    bif (decide (v.1 > v.2.2)) then
      some (v.2.2)
    else
      some (v.1)

noncomputable def k81_0 : List (Known Try.prog E) := []
noncomputable def L81_0 (n id : Nat) (st : St G) : Option Int := none
set_option maxRecDepth 100000 in
theorem e81_0 (n : Nat) (v : Int × Int × Int) : ev Try.prog E (oracle k81_0) Try.f81.ntmps (fun x => mem x []) (L81_0 n) (finF Try.prog E Try.f81.results.toList [[]] w81_0.alts) 4000 [.code (Try.f81.body.getD .skip)] (argSt (v81_0.enc v)) = F81_0 v := by kernel_rfl
theorem ok81_0 : FnOk Try.prog E 81 v81_0.enc F81_0 w81_0.enc :=
  fn_known (fn := Try.f81) (c := (Try.f81.body.getD .skip)) Try.func81 (by kernel_rfl) rfl envOk (oracle_ok k81_0) mixed v81_0 F81_0 w81_0 [] [[]] (by kernel_rfl) [] 4000 L81_0 (by kernel_rfl)
    (fun _ h => nomatch h) (fun v _ h => ⟨0, (e81_0 _ v).trans h⟩) (fun _ => by kernel_rfl) (fun _ => by kernel_rfl) (fun _ _ => by kernel_rfl)
/- chicane/chicaneref12.axis -/
abbrev A52_0 : Type := Int × Int × Int × Int
abbrev R52_0 : Type := Int × Int
def v52_0 : Pk G (Int × Int × Int × Int) := (Pk.fst (pk (Sh.cons (Sh.int .i64) (Sh.cons (Sh.int .i64) (Sh.cons (Sh.int .i64) (Sh.fst (Sh.cons (Sh.int .i64) Sh.nil))))) Sh.hnil))
def w52_0 : Wk G (Int × Int) := (Wk.one [.keep, .keep] (Pk.fst (pk (Sh.cons (Sh.int .i64) (Sh.fst (Sh.cons (Sh.int .i64) Sh.nil))) Sh.hnil)))
def c52_0_3 : Pk G (Int × Int × Int × Int) := (Pk.fst (pk (Sh.cons (Sh.int .i64) (Sh.cons (Sh.int .i64) (Sh.cons (Sh.int .i64) (Sh.fst (Sh.cons (Sh.int .i64) Sh.nil))))) Sh.hnil))
def B52_0_3 (K : ((Int × Int × Int × Int) → Option (Int × Int))) (v : Int × Int × Int × Int) : Option (Int × Int) :=
  let x1558 : Int := (IntKind.wrap .i64 (v.2.2.2 + (1 : Int)))
  bif (decide (x1558 < v.2.1)) then
    bif (decide (v.2.2.1 ≥ v.1)) then
      let x1559 : Int := (IntKind.wrap .i64 (v.2.2.1 - v.1))
      let x1560 : Int := (IntKind.wrap .i64 (v.2.2.2 + (1 : Int)))
      K (v.1, (v.2.1, (x1559, x1560)))
    else
      some (v.2.2.2, v.2.2.1)
  else
    some (v.2.2.2, v.2.2.1)

def E52_0 (K : ((Int × Int × Int × Int) → Option (Int × Int))) (v : Int × Int × Int × Int) : Option (Int × Int) :=
  (F81_0 (v.1, ((-281474976710656 : Int), (281474976710656 : Int)))).bind fun r1556 =>
  let x1557 : Int := (IntKind.wrap .i64 (r1556 - v.2.1))
  K (v.2.2.1, (v.2.2.2, (x1557, (0 : Int))))

def K52_0 : Nat → ((Int × Int × Int × Int) → Option (Int × Int))
  | 0 => (fun _ => none)
  | n + 1 => (B52_0_3 (K52_0 n))
def fuel52_0 (v : Int × Int × Int × Int) : Nat := 1000
def F52_0 (v : Int × Int × Int × Int) : Option (Int × Int) := E52_0 (K52_0 (fuel52_0 v)) v
noncomputable def k52_0 : List (Known Try.prog E) := [Known.of envOk [1, 1, 1] [.keep, .keep, .keep] v81_0 F81_0 w81_0 ok81_0]
def s52_0_3 : List (Nat × Pat) := [(2, .keep), (3, .keep), (10, .keep), (11, .keep)]
noncomputable def L52_0 (n id : Nat) (st : St G) : Option (Int × Int) := match Nat.beq id 3 with | true => cutK Try.prog s52_0_3 [] c52_0_3.dec (K52_0 n) st | false => none
set_option maxRecDepth 100000 in
theorem e52_0 (n : Nat) (v : Int × Int × Int × Int) : ev Try.prog E (oracle k52_0) Try.f52.ntmps (fun x => mem x [3]) (L52_0 n) (finF Try.prog E Try.f52.results.toList [[]] w52_0.alts) 4000 [.code (Try.f52.body.getD .skip)] (argSt (v52_0.enc v)) = E52_0 (K52_0 n) v := by kernel_rfl
set_option maxRecDepth 100000 in
theorem b52_0_3 (n : Nat) (v : Int × Int × Int × Int) : evCut Try.prog E (oracle k52_0) false 52 Try.f52.ntmps (fun x => mem x [3]) (L52_0 n) (finF Try.prog E Try.f52.results.toList [[]] w52_0.alts) 4000 (todoAt (Try.f52.body.getD .skip) 3) (cutSt s52_0_3 (c52_0_3.enc v)) = B52_0_3 (K52_0 n) v := by kernel_rfl
theorem ok52_0 : FnOk Try.prog E 52 v52_0.enc F52_0 w52_0.enc :=
  fn_known (fn := Try.f52) (c := (Try.f52.body.getD .skip)) Try.func52 (by kernel_rfl) rfl envOk (oracle_ok k52_0) mixed v52_0 F52_0 w52_0 [] [[]] (by kernel_rfl) [3] 4000 L52_0 (by kernel_rfl)
    (List.forall_mem_cons.2 ⟨⟨_, [], s52_0_3, c52_0_3.dec, c52_0_3.enc, fun n => (K52_0 n), c52_0_3.ok, fun _ _ => rfl, fun _ => rfl, by kernel_rfl, fun n v _ h => (b52_0_3 n v).trans h⟩, fun _ h => (nomatch h)⟩) (fun v _ h => ⟨fuel52_0 v, (e52_0 _ v).trans h⟩) (fun _ => by kernel_rfl) (fun _ => by kernel_rfl) (fun _ _ => by kernel_rfl)
/- chicane/chicaneref12.Where -/
abbrev A16_0 : Type := (Int × Int × Int × Int × Int × Int × List Int × List Int × (List (Int × Int × Bool)) × (List (Int × Int)) × (List (List (Int × Int))) × (List (Int × Int × Int × Int × Bool)) × Int × Int × Int × Int) × Int × Int
abbrev R16_0 : Type := Int × Int × Int × Int
def v16_0 : Pk G ((Int × Int × Int × Int × Int × Int × List Int × List Int × (List (Int × Int × Bool)) × (List (Int × Int)) × (List (List (Int × Int))) × (List (Int × Int × Int × Int × Bool)) × Int × Int × Int × Int) × Int × Int) := (Pk.fst (pk (Sh.cons (Sh.agg (Sh.cons (Sh.int .i64) (Sh.cons (Sh.int .i64) (Sh.cons (Sh.int .i64) (Sh.cons (Sh.int .i64) (Sh.cons (Sh.int .i64) (Sh.cons (Sh.int .i64) (Sh.cons (Sh.ros 22) (Sh.cons (Sh.ros 3) (Sh.cons (Sh.ros 86) (Sh.cons (Sh.ros 24) (Sh.cons (Sh.ros 28) (Sh.cons (Sh.ros 196) (Sh.cons (Sh.int .i64) (Sh.cons (Sh.int .i64) (Sh.cons (Sh.int .u32) (Sh.fst (Sh.cons (Sh.int .i64) Sh.nil)))))))))))))))))) (Sh.cons (Sh.int .i64) (Sh.fst (Sh.cons (Sh.int .i64) Sh.nil)))) Sh.hnil))
def w16_0 : Wk G (Int × Int × Int × Int) := (Wk.one [.keep, .keep, .keep, .keep] (Pk.fst (pk (Sh.cons (Sh.int .i64) (Sh.cons (Sh.int .i64) (Sh.cons (Sh.int .i64) (Sh.fst (Sh.cons (Sh.int .i64) Sh.nil))))) Sh.hnil)))
def F16_0 (v : (Int × Int × Int × Int × Int × Int × List Int × List Int × (List (Int × Int × Bool)) × (List (Int × Int)) × (List (List (Int × Int))) × (List (Int × Int × Int × Int × Bool)) × Int × Int × Int × Int) × Int × Int) : Option (Int × Int × Int × Int) :=
  (F52_0 (v.2.1, (v.1.2.2.2.2.1, (v.1.2.1, v.1.2.2.1)))).bind fun r1565 =>
  (F52_0 (v.2.2, (v.1.2.2.2.2.2.1, (v.1.2.1, v.1.2.2.2.1)))).bind fun r1566 =>
  some (r1565.1, (r1566.1, (r1565.2, r1566.2)))

noncomputable def k16_0 : List (Known Try.prog E) := [Known.of envOk [1, 1, 1, 1] [.keep, .keep, .keep, .keep] v52_0 F52_0 w52_0 ok52_0]
noncomputable def L16_0 (n id : Nat) (st : St G) : Option (Int × Int × Int × Int) := none
set_option maxRecDepth 100000 in
theorem e16_0 (n : Nat) (v : (Int × Int × Int × Int × Int × Int × List Int × List Int × (List (Int × Int × Bool)) × (List (Int × Int)) × (List (List (Int × Int))) × (List (Int × Int × Int × Int × Bool)) × Int × Int × Int × Int) × Int × Int) : ev Try.prog E (oracle k16_0) Try.f16.ntmps (fun x => mem x []) (L16_0 n) (finF Try.prog E Try.f16.results.toList [[]] w16_0.alts) 4000 [.code (Try.f16.body.getD .skip)] (argSt (v16_0.enc v)) = F16_0 v := by kernel_rfl
theorem ok16_0 : FnOk Try.prog E 16 v16_0.enc F16_0 w16_0.enc :=
  fn_known (fn := Try.f16) (c := (Try.f16.body.getD .skip)) Try.func16 (by kernel_rfl) rfl envOk (oracle_ok k16_0) mixed v16_0 F16_0 w16_0 [] [[]] (by kernel_rfl) [] 4000 L16_0 (by kernel_rfl)
    (fun _ h => nomatch h) (fun v _ h => ⟨0, (e16_0 _ v).trans h⟩) (fun _ => by kernel_rfl) (fun _ => by kernel_rfl) (fun _ _ => by kernel_rfl)
/- chicane/chicaneref12.Base -/
abbrev A18_0 : Type := (Int × Int × Int × Int × Int × Int × List Int × List Int × (List (Int × Int × Bool)) × (List (Int × Int)) × (List (List (Int × Int))) × (List (Int × Int × Int × Int × Bool)) × Int × Int × Int × Int) × Int × Int
abbrev R18_0 : Type := Int
def v18_0 : Pk G ((Int × Int × Int × Int × Int × Int × List Int × List Int × (List (Int × Int × Bool)) × (List (Int × Int)) × (List (List (Int × Int))) × (List (Int × Int × Int × Int × Bool)) × Int × Int × Int × Int) × Int × Int) := (Pk.fst (pk (Sh.cons (Sh.agg (Sh.cons (Sh.int .i64) (Sh.cons (Sh.int .i64) (Sh.cons (Sh.int .i64) (Sh.cons (Sh.int .i64) (Sh.cons (Sh.int .i64) (Sh.cons (Sh.int .i64) (Sh.cons (Sh.ros 22) (Sh.cons (Sh.ros 3) (Sh.cons (Sh.ros 86) (Sh.cons (Sh.ros 24) (Sh.cons (Sh.ros 28) (Sh.cons (Sh.ros 196) (Sh.cons (Sh.int .i64) (Sh.cons (Sh.int .i64) (Sh.cons (Sh.int .u32) (Sh.fst (Sh.cons (Sh.int .i64) Sh.nil)))))))))))))))))) (Sh.cons (Sh.int .i64) (Sh.fst (Sh.cons (Sh.int .i64) Sh.nil)))) Sh.hnil))
def w18_0 : Wk G Int := (Wk.one [.keep] (Pk.fst (pk (Sh.fst (Sh.cons (Sh.int .i64) Sh.nil)) Sh.hnil)))
def F18_0 (v : (Int × Int × Int × Int × Int × Int × List Int × List Int × (List (Int × Int × Bool)) × (List (Int × Int)) × (List (List (Int × Int))) × (List (Int × Int × Int × Int × Bool)) × Int × Int × Int × Int) × Int × Int) : Option Int :=
  bif (decide (v.2.1 < (0 : Int))) then
    some (0 : Int)
  else
    bif (decide (v.2.1 ≥ v.1.2.2.1)) then
      some (0 : Int)
    else
      bif (decide (v.2.2 < (0 : Int))) then
        some (0 : Int)
      else
        bif (decide (v.2.2 ≥ v.1.2.2.2.1)) then
          some (0 : Int)
        else
          let x1577 : Int := (IntKind.wrap .i64 (v.1.2.2.1 + (1 : Int)))
          let x1578 : Int := (IntKind.wrap .i64 (v.2.2 * x1577))
          let x1579 : Int := (IntKind.wrap .i64 (x1578 + v.2.1))
          (rdx v.1.2.2.2.2.2.2.1 x1579).bind fun (x1580 : Int) =>
          some (x1580)

noncomputable def k18_0 : List (Known Try.prog E) := []
noncomputable def L18_0 (n id : Nat) (st : St G) : Option Int := none
set_option maxRecDepth 100000 in
theorem e18_0 (n : Nat) (v : (Int × Int × Int × Int × Int × Int × List Int × List Int × (List (Int × Int × Bool)) × (List (Int × Int)) × (List (List (Int × Int))) × (List (Int × Int × Int × Int × Bool)) × Int × Int × Int × Int) × Int × Int) : ev Try.prog E (oracle k18_0) Try.f18.ntmps (fun x => mem x []) (L18_0 n) (finF Try.prog E Try.f18.results.toList [[]] w18_0.alts) 4000 [.code (Try.f18.body.getD .skip)] (argSt (v18_0.enc v)) = F18_0 v := by kernel_rfl
theorem ok18_0 : FnOk Try.prog E 18 v18_0.enc F18_0 w18_0.enc :=
  fn_known (fn := Try.f18) (c := (Try.f18.body.getD .skip)) Try.func18 (by kernel_rfl) rfl envOk (oracle_ok k18_0) mixed v18_0 F18_0 w18_0 [] [[]] (by kernel_rfl) [] 4000 L18_0 (by kernel_rfl)
    (fun _ h => nomatch h) (fun v _ h => ⟨0, (e18_0 _ v).trans h⟩) (fun _ => by kernel_rfl) (fun _ => by kernel_rfl) (fun _ _ => by kernel_rfl)
/- (*chicane/chicaneref02.M).bound -/
abbrev A84_0 : Type := Bool × Bool
abbrev R84_0 : Type := Int × Bool
def v84_0 : Pk G (Bool × Bool) := (pk (Sh.snd (Sh.cons (Sh.ptr 0 0) (Sh.fst (Sh.cons Sh.bool Sh.nil)))) (Sh.fst (Sh.hfix 0 52 (Sh.fst (Sh.cons Sh.bool Sh.nil)) Sh.hnil)))
def w84_0 : Wk G (Int × Bool) := (Wk.one [.keep] (pk (Sh.fst (Sh.cons (Sh.int .i64) Sh.nil)) (Sh.fst (Sh.hfix 0 52 (Sh.fst (Sh.cons Sh.bool Sh.nil)) Sh.hnil))))
def F84_0 (v : Bool × Bool) : Option (Int × Bool) :=
  bif v.1 then
    some ((-9223372036854775808 : Int), true)
  else
    some ((9223372036854775807 : Int), true)

noncomputable def k84_0 : List (Known Try.prog E) := []
noncomputable def L84_0 (n id : Nat) (st : St G) : Option (Int × Bool) := none
set_option maxRecDepth 100000 in
theorem e84_0 (n : Nat) (v : Bool × Bool) : ev Try.prog E (oracle k84_0) Try.f84.ntmps (fun x => mem x []) (L84_0 n) (finF Try.prog E Try.f84.results.toList [[(.ptr 0 0 52 [.keep])]] w84_0.alts) 4000 [.code (Try.f84.body.getD .skip)] (argSt (v84_0.enc v)) = F84_0 v := by kernel_rfl
theorem ok84_0 : FnOk Try.prog E 84 v84_0.enc F84_0 w84_0.enc :=
  fn_known (fn := Try.f84) (c := (Try.f84.body.getD .skip)) Try.func84 (by kernel_rfl) rfl envOk (oracle_ok k84_0) mixed v84_0 F84_0 w84_0 [(.ptr 0 0 52 [.keep])] [[(.ptr 0 0 52 [.keep])]] (by kernel_rfl) [] 4000 L84_0 (by kernel_rfl)
    (fun _ h => nomatch h) (fun v _ h => ⟨0, (e84_0 _ v).trans h⟩) (fun _ => by kernel_rfl) (fun _ => by kernel_rfl) (fun _ _ => by kernel_rfl)
/- chicane/chicaneref01.Size -/
abbrev A86_0 : Type := Int
abbrev R86_0 : Type := Int
def v86_0 : Pk G Int := (Pk.fst (pk (Sh.fst (Sh.cons (Sh.int .i64) Sh.nil)) Sh.hnil))
def w86_0 : Wk G Int := (Wk.one [.keep] (Pk.fst (pk (Sh.fst (Sh.cons (Sh.int .u64) Sh.nil)) Sh.hnil)))
def F86_0 (v : Int) : Option Int :=
  bif (decide (v < (0 : Int))) then
    let x1608 : Int := (IntKind.wrap .i64 (v + (1 : Int)))
    let x1609 : Int := (IntKind.wrap .i64 (0 - x1608))
    let x1610 : Int := (IntKind.wrap .u64 x1609)
    let x1611 : Int := (IntKind.wrap .u64 (x1610 + (1 : Int)))
    some (x1611)
  else
    let x1612 : Int := (IntKind.wrap .u64 v)
    some (x1612)

noncomputable def k86_0 : List (Known Try.prog E) := []
noncomputable def L86_0 (n id : Nat) (st : St G) : Option Int := none
set_option maxRecDepth 100000 in
theorem e86_0 (n : Nat) (v : Int) : ev Try.prog E (oracle k86_0) Try.f86.ntmps (fun x => mem x []) (L86_0 n) (finF Try.prog E Try.f86.results.toList [[]] w86_0.alts) 4000 [.code (Try.f86.body.getD .skip)] (argSt (v86_0.enc v)) = F86_0 v := by kernel_rfl
theorem ok86_0 : FnOk Try.prog E 86 v86_0.enc F86_0 w86_0.enc :=
  fn_known (fn := Try.f86) (c := (Try.f86.body.getD .skip)) Try.func86 (by kernel_rfl) rfl envOk (oracle_ok k86_0) mixed v86_0 F86_0 w86_0 [] [[]] (by kernel_rfl) [] 4000 L86_0 (by kernel_rfl)
    (fun _ h => nomatch h) (fun v _ h => ⟨0, (e86_0 _ v).trans h⟩) (fun _ => by kernel_rfl) (fun _ => by kernel_rfl) (fun _ _ => by kernel_rfl)
/- chicane/chicaneref02.over -/
abbrev A85_0 : Type := Int × Int
abbrev R85_0 : Type := Int × Bool
def v85_0 : Pk G (Int × Int) := (Pk.fst (pk (Sh.cons (Sh.int .u64) (Sh.fst (Sh.cons (Sh.int .u64) Sh.nil))) Sh.hnil))
def w85_0 : Wk G (Int × Bool) := (Wk.one [.keep, .keep] (Pk.fst (pk (Sh.cons (Sh.int .u64) (Sh.fst (Sh.cons Sh.bool Sh.nil))) Sh.hnil)))
def c85_0_4 : Pk G (Int × Int × Int × Int × Int) := (Pk.fst (pk (Sh.cons (Sh.int .u64) (Sh.cons (Sh.int .u64) (Sh.cons (Sh.int .u64) (Sh.cons (Sh.int .u64) (Sh.fst (Sh.cons (Sh.int .i64) Sh.nil)))))) Sh.hnil))
def B85_0_4 (K : ((Int × Int × Int × Int × Int) → Option (Int × Bool))) (v : Int × Int × Int × Int × Int) : Option (Int × Bool) :=
  bif (decide (v.2.2.2.2 ≥ (0 : Int))) then
    bif (decide (v.2.2.2.2 ≥ (32 : Int))) then
      let x1663 : Int := (IntKind.wrap .i64 (v.2.2.2.2 - (32 : Int)))
      let x1664 : Int := (IntKind.wrap .u64 x1663)
      (chk (decide (0 ≤ x1664))).bind fun _ =>
      let x1665 : Int := (Int.fdiv v.1 (2 ^ min (x1664).toNat 64))
      let x1666 : Int := (Int.tmod x1665 (2 : Int))
      let x1667 : Int := (IntKind.wrap .u64 ((2 : Int) * v.2.2.2.1))
      let x1668 : Int := (IntKind.wrap .u64 (x1667 + x1666))
      bif (decide (v.2.2.1 ≥ (9223372036854775808 : Int))) then
        some ((0 : Int), false)
      else
        let x1669 : Int := (IntKind.wrap .u64 ((2 : Int) * v.2.2.1))
        bif (decide (x1668 ≥ v.2.1)) then
          let x1670 : Int := (IntKind.wrap .u64 (x1668 - v.2.1))
          let x1671 : Int := (IntKind.wrap .u64 (x1669 + (1 : Int)))
          let x1672 : Int := (IntKind.wrap .i64 (v.2.2.2.2 - (1 : Int)))
          K (v.1, (v.2.1, (x1671, (x1670, x1672))))
        else
          let x1673 : Int := (IntKind.wrap .i64 (v.2.2.2.2 - (1 : Int)))
          K (v.1, (v.2.1, (x1669, (x1668, x1673))))
    else
      let x1674 : Int := (IntKind.wrap .u64 ((2 : Int) * v.2.2.2.1))
      let x1675 : Int := (IntKind.wrap .u64 (x1674 + (0 : Int)))
      bif (decide (v.2.2.1 ≥ (9223372036854775808 : Int))) then
        some ((0 : Int), false)
      else
        let x1676 : Int := (IntKind.wrap .u64 ((2 : Int) * v.2.2.1))
        bif (decide (x1675 ≥ v.2.1)) then
          let x1677 : Int := (IntKind.wrap .u64 (x1675 - v.2.1))
          let x1678 : Int := (IntKind.wrap .u64 (x1676 + (1 : Int)))
          let x1679 : Int := (IntKind.wrap .i64 (v.2.2.2.2 - (1 : Int)))
          K (v.1, (v.2.1, (x1678, (x1677, x1679))))
        else
          let x1680 : Int := (IntKind.wrap .i64 (v.2.2.2.2 - (1 : Int)))
          K (v.1, (v.2.1, (x1676, (x1675, x1680))))
  else
    let x1681 : Int := (IntKind.wrap .u64 (v.2.1 - v.2.2.2.1))
    bif (decide (v.2.2.2.1 > x1681)) then
      let x1682 : Int := (IntKind.wrap .u64 (v.2.2.1 + (1 : Int)))
      bif (x1682 == (0 : Int)) then
        some ((0 : Int), false)
      else
        some (x1682, true)
    else
      let x1683 : Int := (IntKind.wrap .u64 (v.2.1 - v.2.2.2.1))
      bif (v.2.2.2.1 == x1683) then
        let x1684 : Int := (Int.tmod v.2.2.1 (2 : Int))
        bif (x1684 == (1 : Int)) then
          let x1685 : Int := (IntKind.wrap .u64 (v.2.2.1 + (1 : Int)))
          bif (x1685 == (0 : Int)) then
            some ((0 : Int), false)
          else
            some (x1685, true)
        else
          some (v.2.2.1, true)
      else
        some (v.2.2.1, true)

def E85_0 (K : ((Int × Int × Int × Int × Int) → Option (Int × Bool))) (v : Int × Int) : Option (Int × Bool) :=
  K (v.1, (v.2, ((0 : Int), ((0 : Int), (95 : Int)))))

def K85_0 : Nat → ((Int × Int × Int × Int × Int) → Option (Int × Bool))
  | 0 => (fun _ => none)
  | n + 1 => (B85_0_4 (K85_0 n))
def fuel85_0 (v : Int × Int) : Nat := 1000
def F85_0 (v : Int × Int) : Option (Int × Bool) := E85_0 (K85_0 (fuel85_0 v)) v
noncomputable def k85_0 : List (Known Try.prog E) := []
def s85_0_4 : List (Nat × Pat) := [(0, .keep), (1, .keep), (6, .keep), (7, .keep), (8, .keep)]
noncomputable def L85_0 (n id : Nat) (st : St G) : Option (Int × Bool) := match Nat.beq id 4 with | true => cutK Try.prog s85_0_4 [] c85_0_4.dec (K85_0 n) st | false => none
set_option maxRecDepth 100000 in
theorem e85_0 (n : Nat) (v : Int × Int) : ev Try.prog E (oracle k85_0) Try.f85.ntmps (fun x => mem x [4]) (L85_0 n) (finF Try.prog E Try.f85.results.toList [[]] w85_0.alts) 4000 [.code (Try.f85.body.getD .skip)] (argSt (v85_0.enc v)) = E85_0 (K85_0 n) v := by kernel_rfl
set_option maxRecDepth 100000 in
theorem b85_0_4 (n : Nat) (v : Int × Int × Int × Int × Int) : evCut Try.prog E (oracle k85_0) false 85 Try.f85.ntmps (fun x => mem x [4]) (L85_0 n) (finF Try.prog E Try.f85.results.toList [[]] w85_0.alts) 4000 (todoAt (Try.f85.body.getD .skip) 4) (cutSt s85_0_4 (c85_0_4.enc v)) = B85_0_4 (K85_0 n) v := by kernel_rfl
theorem ok85_0 : FnOk Try.prog E 85 v85_0.enc F85_0 w85_0.enc :=
  fn_known (fn := Try.f85) (c := (Try.f85.body.getD .skip)) Try.func85 (by kernel_rfl) rfl envOk (oracle_ok k85_0) mixed v85_0 F85_0 w85_0 [] [[]] (by kernel_rfl) [4] 4000 L85_0 (by kernel_rfl)
    (List.forall_mem_cons.2 ⟨⟨_, [], s85_0_4, c85_0_4.dec, c85_0_4.enc, fun n => (K85_0 n), c85_0_4.ok, fun _ _ => rfl, fun _ => rfl, by kernel_rfl, fun n v _ h => (b85_0_4 n v).trans h⟩, fun _ h => (nomatch h)⟩) (fun v _ h => ⟨fuel85_0 v, (e85_0 _ v).trans h⟩) (fun _ => by kernel_rfl) (fun _ => by kernel_rfl) (fun _ _ => by kernel_rfl)
end Go.Proofs.Ytneiaaalbpjgiaa.Ev
