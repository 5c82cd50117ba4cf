import Derived.Test.YtggfniipidepdaaXEnv
set_option linter.unusedVariables false
namespace Go.Proofs.Ytggfniipidepdaa.Ev
open Go Go.RowKit
def sc0 : ByteArray := ⟨#[67, 72, 83, 67]⟩
def sc1 : ByteArray := ⟨#[0, 1, 2, 2, 3, 3, 3, 3, 4, 4, 4, 4, 4, 4, 4, 4, 5, 5, 5, 5, 5, 5, 5, 5, 5, 5, 5, 5, 5, 5, 5, 5, 6, 6, 6, 6, 6, 6, 6, 6, 6, 6, 6, 6, 6, 6, 6, 6, 6, 6, 6, 6, 6, 6, 6, 6, 6, 6, 6, 6, 6, 6, 6, 6, 7, 7, 7, 7, 7, 7, 7, 7, 7, 7, 7, 7, 7, 7, 7, 7, 7, 7, 7, 7, 7, 7, 7, 7, 7, 7, 7, 7, 7, 7, 7, 7, 7, 7, 7, 7, 7, 7, 7, 7, 7, 7, 7, 7, 7, 7, 7, 7, 7, 7, 7, 7, 7, 7, 7, 7, 7, 7, 7, 7, 7, 7, 7, 7, 8, 8, 8, 8, 8, 8, 8, 8, 8, 8, 8, 8, 8, 8, 8, 8, 8, 8, 8, 8, 8, 8, 8, 8, 8, 8, 8, 8, 8, 8, 8, 8, 8, 8, 8, 8, 8, 8, 8, 8, 8, 8, 8, 8, 8, 8, 8, 8, 8, 8, 8, 8, 8, 8, 8, 8, 8, 8, 8, 8, 8, 8, 8, 8, 8, 8, 8, 8, 8, 8, 8, 8, 8, 8, 8, 8, 8, 8, 8, 8, 8, 8, 8, 8, 8, 8, 8, 8, 8, 8, 8, 8, 8, 8, 8, 8, 8, 8, 8, 8, 8, 8, 8, 8, 8, 8, 8, 8, 8, 8, 8, 8, 8, 8, 8, 8, 8, 8, 8, 8, 8, 8, 8, 8, 8, 8, 8, 8]⟩
/- chicane/wire.marked -/
abbrev A44_0 : Type := ByteArray
abbrev R44_0 : Type := Int × Int × Int × Int
def v44_0 : Pk G ByteArray := (Pk.fst (pk (Sh.fst (Sh.cons Sh.str Sh.nil)) Sh.hnil))
def w44_0 : Wk G (Int × Int × Int × Int) := (Wk.one [(.agg [.keep, .keep, .keep, .keep])] (Pk.fst (pk (Sh.fst (Sh.cons (Sh.agg (Sh.cons (Sh.int .u8) (Sh.cons (Sh.int .u8) (Sh.cons (Sh.int .u8) (Sh.fst (Sh.cons (Sh.int .u8) Sh.nil)))))) Sh.nil)) Sh.hnil)))
def F44_0 (v : ByteArray) : Option (Int × Int × Int × Int) :=
  some ((if 0 < (v).size then byteI v 0 else (0 : Int)), ((if 1 < (v).size then byteI v 1 else (0 : Int)), ((if 2 < (v).size then byteI v 2 else (0 : Int)), (if 3 < (v).size then byteI v 3 else (0 : Int)))))

noncomputable def k44_0 : List (Known Try.prog E) := []
noncomputable def L44_0 (n id : Nat) (st : St G) : Option (Int × Int × Int × Int) := none
set_option maxRecDepth 100000 in
theorem e44_0 (n : Nat) (v : ByteArray) : ev Try.prog E (oracle k44_0) Try.f44.ntmps (fun x => mem x []) (L44_0 n) (finA Try.prog E Try.f44.results.toList [] w44_0.alts) 4000 [.code (Try.f44.body.getD .skip)] (argSt (v44_0.enc v)) = F44_0 v := by kernel_rfl
theorem ok44_0 : FnOk Try.prog E 44 v44_0.enc F44_0 w44_0.enc :=
  fn_known (fn := Try.f44) (c := (Try.f44.body.getD .skip)) Try.func44 (by kernel_rfl) rfl envOk (oracle_ok k44_0) mixed v44_0 F44_0 w44_0 [] [] 4000 L44_0 (by kernel_rfl)
    (fun _ h => nomatch h) (fun v _ h => ⟨0, (e44_0 _ v).trans h⟩) (fun _ => by kernel_rfl) (fun _ => by kernel_rfl) (fun _ _ => by kernel_rfl)
/- (*chicane/wire.Out).Mark -/
abbrev A20_0 : Type := ByteArray × List Int
abbrev R20_0 : Type := List Int
def v20_0 : Pk G (ByteArray × List Int) := (pk (Sh.snd (Sh.cons (Sh.ptr 0 0) (Sh.fst (Sh.cons Sh.str Sh.nil)))) (Sh.snd (Sh.hfix 0 41 (Sh.snd (Sh.cons (Sh.osl 1) Sh.nil)) (Sh.fst (Sh.hrow 1 5 Sh.hnil)))))
def w20_0 : Wk G (List Int) := (Wk.one [] (Pk.snd (pk Sh.nil (Sh.snd (Sh.hfix 0 41 (Sh.snd (Sh.cons (Sh.osl 2) Sh.nil)) (Sh.fst (Sh.hrow 2 5 Sh.hnil)))))))
def F20_0 (v : ByteArray × List Int) : Option (List Int) :=
  (F44_0 v.1).bind fun r6 =>
  (chk (decide (((v.2).length + (([r6.1, r6.2.1, r6.2.2.1, r6.2.2.2] : List Int)).length) * 1 ≤ 140737488355328))).bind fun _ =>
  let x7 : List Int := (v.2 ++ ([r6.1, r6.2.1, r6.2.2.1, r6.2.2.2] : List Int))
  some (x7)

noncomputable def k20_0 : List (Known Try.prog E) := [Known.of envOk [3] [.keep] v44_0 F44_0 w44_0 ok44_0]
noncomputable def L20_0 (n id : Nat) (st : St G) : Option (List Int) := none
set_option maxRecDepth 100000 in
theorem e20_0 (n : Nat) (v : ByteArray × List Int) : ev Try.prog E (oracle k20_0) Try.f20.ntmps (fun x => mem x []) (L20_0 n) (finA Try.prog E Try.f20.results.toList [(.ptr 0 0 41 [(.own 2 5)])] w20_0.alts) 4000 [.code (Try.f20.body.getD .skip)] (argSt (v20_0.enc v)) = F20_0 v := by kernel_rfl
theorem ok20_0 : FnOk Try.prog E 20 v20_0.enc F20_0 w20_0.enc :=
  fn_known (fn := Try.f20) (c := (Try.f20.body.getD .skip)) Try.func20 (by kernel_rfl) rfl envOk (oracle_ok k20_0) mixed v20_0 F20_0 w20_0 [(.ptr 0 0 41 [(.own 2 5)])] [] 4000 L20_0 (by kernel_rfl)
    (fun _ h => nomatch h) (fun v _ h => ⟨0, (e20_0 _ v).trans h⟩) (fun _ => by kernel_rfl) (fun _ => by kernel_rfl) (fun _ _ => by kernel_rfl)
/- chicane/wire.low -/
abbrev A45_0 : Type := (Int × Int) × List Int
abbrev R45_0 : Type := List Int
def v45_0 : Pk G ((Int × Int) × List Int) := (pk (Sh.snd (Sh.cons (Sh.osl 0) (Sh.cons (Sh.int .u64) (Sh.fst (Sh.cons (Sh.int .i64) Sh.nil))))) (Sh.fst (Sh.hrow 0 5 Sh.hnil)))
def w45_0 : Wk G (List Int) := (Wk.one [(.own 1 5)] (Pk.snd (pk (Sh.snd (Sh.cons (Sh.osl 1) Sh.nil)) (Sh.fst (Sh.hrow 1 5 Sh.hnil)))))
def c45_0_2 : Pk G ((Int × Int × Int) × List Int) := (pk (Sh.snd (Sh.cons (Sh.osl 1) (Sh.cons (Sh.int .u64) (Sh.cons (Sh.int .i64) (Sh.fst (Sh.cons (Sh.int .i64) Sh.nil)))))) (Sh.fst (Sh.hrow 1 5 Sh.hnil)))
def B45_0_2 (K : (((Int × Int × Int) × List Int) → Option (List Int))) (v : (Int × Int × Int) × List Int) : Option (List Int) :=
  bif (decide (v.1.2.2 < v.1.2.1)) then
    let x22 : Int := (IntKind.wrap .u8 v.1.1)
    (chk (decide (((v.2).length + (([x22] : List Int)).length) * 1 ≤ 140737488355328))).bind fun _ =>
    let x23 : List Int := (v.2 ++ ([x22] : List Int))
    let x24 : Int := (Int.fdiv v.1.1 (2 ^ 8))
    let x25 : Int := (IntKind.wrap .i64 (v.1.2.2 + (1 : Int)))
    K ((x24, (v.1.2.1, x25)), x23)
  else
    some (v.2)

def E45_0 (K : (((Int × Int × Int) × List Int) → Option (List Int))) (v : (Int × Int) × List Int) : Option (List Int) :=
  K ((v.1.1, (v.1.2, (0 : Int))), v.2)

def K45_0 : Nat → (((Int × Int × Int) × List Int) → Option (List Int))
  | 0 => (fun _ => none)
  | n + 1 => (B45_0_2 (K45_0 n))
def fuel45_0 (v : (Int × Int) × List Int) : Nat := 1000
def F45_0 (v : (Int × Int) × List Int) : Option (List Int) := E45_0 (K45_0 (fuel45_0 v)) v
noncomputable def k45_0 : List (Known Try.prog E) := []
def s45_0_2 : List (Nat × Pat) := [(0, (.own 1 5)), (1, .keep), (7, .keep), (8, .keep)]
noncomputable def L45_0 (n id : Nat) (st : St G) : Option (List Int) := match Nat.beq id 2 with | true => cutK Try.prog s45_0_2 [] c45_0_2.dec (K45_0 n) st | false => none
set_option maxRecDepth 100000 in
theorem e45_0 (n : Nat) (v : (Int × Int) × List Int) : ev Try.prog E (oracle k45_0) Try.f45.ntmps (fun x => mem x [2]) (L45_0 n) (finA Try.prog E Try.f45.results.toList [] w45_0.alts) 4000 [.code (Try.f45.body.getD .skip)] (argSt (v45_0.enc v)) = E45_0 (K45_0 n) v := by kernel_rfl
set_option maxRecDepth 100000 in
theorem b45_0_2 (n : Nat) (v : (Int × Int × Int) × List Int) : evCut Try.prog E (oracle k45_0) Try.f45.ntmps (fun x => mem x [2]) (L45_0 n) (finA Try.prog E Try.f45.results.toList [] w45_0.alts) 4000 (todoAt (Try.f45.body.getD .skip) 2) (cutSt s45_0_2 (c45_0_2.enc v)) = B45_0_2 (K45_0 n) v := by kernel_rfl
theorem ok45_0 : FnOk Try.prog E 45 v45_0.enc F45_0 w45_0.enc :=
  fn_known (fn := Try.f45) (c := (Try.f45.body.getD .skip)) Try.func45 (by kernel_rfl) rfl envOk (oracle_ok k45_0) mixed v45_0 F45_0 w45_0 [] [2] 4000 L45_0 (by kernel_rfl)
    (List.forall_mem_cons.2 ⟨⟨_, s45_0_2, c45_0_2.dec, c45_0_2.enc, fun n => (K45_0 n), c45_0_2.ok, fun _ _ => rfl, fun _ => rfl, fun n v _ h => (b45_0_2 n v).trans h⟩, fun _ h => (nomatch h)⟩) (fun v _ h => ⟨fuel45_0 v, (e45_0 _ v).trans h⟩) (fun _ => by kernel_rfl) (fun _ => by kernel_rfl) (fun _ _ => by kernel_rfl)
/- (*chicane/wire.Out).Num -/
abbrev A21_0 : Type := Int × List Int
abbrev R21_0 : Type := List Int
def v21_0 : Pk G (Int × List Int) := (pk (Sh.snd (Sh.cons (Sh.ptr 0 0) (Sh.fst (Sh.cons (Sh.int .i64) Sh.nil)))) (Sh.snd (Sh.hfix 0 41 (Sh.snd (Sh.cons (Sh.osl 1) Sh.nil)) (Sh.fst (Sh.hrow 1 5 Sh.hnil)))))
def w21_0 : Wk G (List Int) := (Wk.one [] (Pk.snd (pk Sh.nil (Sh.snd (Sh.hfix 0 41 (Sh.snd (Sh.cons (Sh.osl 2) Sh.nil)) (Sh.fst (Sh.hrow 2 5 Sh.hnil)))))))
def F21_0 (v : Int × List Int) : Option (List Int) :=
  let x29 : Int := (IntKind.wrap .u64 v.1)
  (F45_0 ((x29, (8 : Int)), v.2)).bind fun r30 =>
  some (r30)

noncomputable def k21_0 : List (Known Try.prog E) := [Known.of envOk [7, 1, 1] [(.own 0 5), .keep, .keep] v45_0 F45_0 w45_0 ok45_0]
noncomputable def L21_0 (n id : Nat) (st : St G) : Option (List Int) := none
set_option maxRecDepth 100000 in
theorem e21_0 (n : Nat) (v : Int × List Int) : ev Try.prog E (oracle k21_0) Try.f21.ntmps (fun x => mem x []) (L21_0 n) (finA Try.prog E Try.f21.results.toList [(.ptr 0 0 41 [(.own 2 5)])] w21_0.alts) 4000 [.code (Try.f21.body.getD .skip)] (argSt (v21_0.enc v)) = F21_0 v := by kernel_rfl
theorem ok21_0 : FnOk Try.prog E 21 v21_0.enc F21_0 w21_0.enc :=
  fn_known (fn := Try.f21) (c := (Try.f21.body.getD .skip)) Try.func21 (by kernel_rfl) rfl envOk (oracle_ok k21_0) mixed v21_0 F21_0 w21_0 [(.ptr 0 0 41 [(.own 2 5)])] [] 4000 L21_0 (by kernel_rfl)
    (fun _ h => nomatch h) (fun v _ h => ⟨0, (e21_0 _ v).trans h⟩) (fun _ => by kernel_rfl) (fun _ => by kernel_rfl) (fun _ _ => by kernel_rfl)
/- chicane/control.within -/
abbrev A27_0 : Type := Int × Int × Int
abbrev R27_0 : Type := Bool
def v27_0 : Pk G (Int × Int × Int) := (Pk.fst (pk (Sh.cons (Sh.int .i64) (Sh.cons (Sh.int .i64) (Sh.fst (Sh.cons (Sh.int .i64) Sh.nil)))) Sh.hnil))
def w27_0 : Wk G Bool := (Wk.one [.keep] (Pk.fst (pk (Sh.fst (Sh.cons Sh.bool Sh.nil)) Sh.hnil)))
def F27_0 (v : Int × Int × Int) : Option Bool :=
  bif (decide (v.2.1 ≤ v.1)) then
    some (decide (v.1 ≤ v.2.2))
  else
    some (false)

noncomputable def k27_0 : List (Known Try.prog E) := []
noncomputable def L27_0 (n id : Nat) (st : St G) : Option Bool := none
set_option maxRecDepth 100000 in
theorem e27_0 (n : Nat) (v : Int × Int × Int) : ev Try.prog E (oracle k27_0) Try.f27.ntmps (fun x => mem x []) (L27_0 n) (finA Try.prog E Try.f27.results.toList [] w27_0.alts) 4000 [.code (Try.f27.body.getD .skip)] (argSt (v27_0.enc v)) = F27_0 v := by kernel_rfl
theorem ok27_0 : FnOk Try.prog E 27 v27_0.enc F27_0 w27_0.enc :=
  fn_known (fn := Try.f27) (c := (Try.f27.body.getD .skip)) Try.func27 (by kernel_rfl) rfl envOk (oracle_ok k27_0) mixed v27_0 F27_0 w27_0 [] [] 4000 L27_0 (by kernel_rfl)
    (fun _ h => nomatch h) (fun v _ h => ⟨0, (e27_0 _ v).trans h⟩) (fun _ => by kernel_rfl) (fun _ => by kernel_rfl) (fun _ _ => by kernel_rfl)
/- chicane/control.Right -/
abbrev A10_0 : Type := Int × Int × Int × Int × Int × Bool × Bool
abbrev R10_0 : Type := Int
def v10_0 : Pk G (Int × Int × Int × Int × Int × Bool × Bool) := (Pk.fst (pk (Sh.fst (Sh.cons (Sh.agg (Sh.cons (Sh.int .i64) (Sh.cons (Sh.int .i64) (Sh.cons (Sh.int .i64) (Sh.cons (Sh.int .i64) (Sh.cons (Sh.int .i64) (Sh.cons Sh.bool (Sh.fst (Sh.cons Sh.bool Sh.nil))))))))) Sh.nil)) Sh.hnil))
def w10_0 : Wk G Int := (Wk.one [.keep] (Pk.fst (pk (Sh.fst (Sh.cons (Sh.int .i64) Sh.nil)) Sh.hnil)))
def F10_0 (v : Int × Int × Int × Int × Int × Bool × Bool) : Option Int :=
  let x52 : Int := (if v.2.1 < v.1 then v.2.1 else v.1)
  let x53 : Int := (if v.2.2.1 < x52 then v.2.2.1 else x52)
  (F27_0 (x53, ((0 : Int), (255 : Int)))).bind fun r54 =>
  bif (!r54) then
    bif (!r54) then
      some (40 : Int)
    else
      (F27_0 (v.2.2.2.1, ((-127 : Int), (127 : Int)))).bind fun r55 =>
      bif (!r55) then
        bif (!r55) then
          some (40 : Int)
        else
          some (0 : Int)
      else
        (F27_0 (v.2.2.2.2.1, ((-1 : Int), (8 : Int)))).bind fun r56 =>
        bif (!r56) then
          some (40 : Int)
        else
          some (0 : Int)
  else
    let x57 : Int := (if v.2.1 > v.1 then v.2.1 else v.1)
    let x58 : Int := (if v.2.2.1 > x57 then v.2.2.1 else x57)
    bif (decide (x58 > (255 : Int))) then
      some (40 : Int)
    else
      (F27_0 (v.2.2.2.1, ((-127 : Int), (127 : Int)))).bind fun r59 =>
      bif (!r59) then
        bif (!r59) then
          some (40 : Int)
        else
          some (0 : Int)
      else
        (F27_0 (v.2.2.2.2.1, ((-1 : Int), (8 : Int)))).bind fun r60 =>
        bif (!r60) then
          some (40 : Int)
        else
          some (0 : Int)

noncomputable def k10_0 : List (Known Try.prog E) := [Known.of envOk [1, 1, 1] [.keep, .keep, .keep] v27_0 F27_0 w27_0 ok27_0]
noncomputable def L10_0 (n id : Nat) (st : St G) : Option Int := none
set_option maxRecDepth 100000 in
theorem e10_0 (n : Nat) (v : Int × Int × Int × Int × Int × Bool × Bool) : ev Try.prog E (oracle k10_0) Try.f10.ntmps (fun x => mem x []) (L10_0 n) (finA Try.prog E Try.f10.results.toList [] w10_0.alts) 4000 [.code (Try.f10.body.getD .skip)] (argSt (v10_0.enc v)) = F10_0 v := by kernel_rfl
theorem ok10_0 : FnOk Try.prog E 10 v10_0.enc F10_0 w10_0.enc :=
  fn_known (fn := Try.f10) (c := (Try.f10.body.getD .skip)) Try.func10 (by kernel_rfl) rfl envOk (oracle_ok k10_0) mixed v10_0 F10_0 w10_0 [] [] 4000 L10_0 (by kernel_rfl)
    (fun _ h => nomatch h) (fun v _ h => ⟨0, (e10_0 _ v).trans h⟩) (fun _ => by kernel_rfl) (fun _ => by kernel_rfl) (fun _ _ => by kernel_rfl)
/- (*chicane/wire.Out).Count -/
abbrev A46_0 : Type := Int × List Int
abbrev R46_0 : Type := List Int
def v46_0 : Pk G (Int × List Int) := (pk (Sh.snd (Sh.cons (Sh.ptr 0 0) (Sh.fst (Sh.cons (Sh.int .i64) Sh.nil)))) (Sh.snd (Sh.hfix 0 41 (Sh.snd (Sh.cons (Sh.osl 1) Sh.nil)) (Sh.fst (Sh.hrow 1 5 Sh.hnil)))))
def w46_0 : Wk G (List Int) := (Wk.one [] (Pk.snd (pk Sh.nil (Sh.snd (Sh.hfix 0 41 (Sh.snd (Sh.cons (Sh.osl 2) Sh.nil)) (Sh.fst (Sh.hrow 2 5 Sh.hnil)))))))
def F46_0 (v : Int × List Int) : Option (List Int) :=
  let x70 : Int := (IntKind.wrap .u64 v.1)
  (F45_0 ((x70, (2 : Int)), v.2)).bind fun r71 =>
  some (r71)

noncomputable def k46_0 : List (Known Try.prog E) := [Known.of envOk [7, 1, 1] [(.own 0 5), .keep, .keep] v45_0 F45_0 w45_0 ok45_0]
noncomputable def L46_0 (n id : Nat) (st : St G) : Option (List Int) := none
set_option maxRecDepth 100000 in
theorem e46_0 (n : Nat) (v : Int × List Int) : ev Try.prog E (oracle k46_0) Try.f46.ntmps (fun x => mem x []) (L46_0 n) (finA Try.prog E Try.f46.results.toList [(.ptr 0 0 41 [(.own 2 5)])] w46_0.alts) 4000 [.code (Try.f46.body.getD .skip)] (argSt (v46_0.enc v)) = F46_0 v := by kernel_rfl
theorem ok46_0 : FnOk Try.prog E 46 v46_0.enc F46_0 w46_0.enc :=
  fn_known (fn := Try.f46) (c := (Try.f46.body.getD .skip)) Try.func46 (by kernel_rfl) rfl envOk (oracle_ok k46_0) mixed v46_0 F46_0 w46_0 [(.ptr 0 0 41 [(.own 2 5)])] [] 4000 L46_0 (by kernel_rfl)
    (fun _ h => nomatch h) (fun v _ h => ⟨0, (e46_0 _ v).trans h⟩) (fun _ => by kernel_rfl) (fun _ => by kernel_rfl) (fun _ _ => by kernel_rfl)
/- (*chicane/wire.Out).Flag -/
abbrev A47_0 : Type := Bool × List Int
abbrev R47_0 : Type := List Int
def v47_0 : Pk G (Bool × List Int) := (pk (Sh.snd (Sh.cons (Sh.ptr 0 0) (Sh.fst (Sh.cons Sh.bool Sh.nil)))) (Sh.snd (Sh.hfix 0 41 (Sh.snd (Sh.cons (Sh.osl 1) Sh.nil)) (Sh.fst (Sh.hrow 1 5 Sh.hnil)))))
def w47_0 : Wk G (List Int) := (Wk.one [] (Pk.snd (pk Sh.nil (Sh.snd (Sh.hfix 0 41 (Sh.snd (Sh.cons (Sh.osl 2) Sh.nil)) (Sh.fst (Sh.hrow 2 5 Sh.hnil)))))))
def F47_0 (v : Bool × List Int) : Option (List Int) :=
  bif v.1 then
    (chk (decide (((v.2).length + (([(1 : Int)] : List Int)).length) * 1 ≤ 140737488355328))).bind fun _ =>
    let x78 : List Int := (v.2 ++ ([(1 : Int)] : List Int))
    some (x78)
  else
    (chk (decide (((v.2).length + (([(0 : Int)] : List Int)).length) * 1 ≤ 140737488355328))).bind fun _ =>
    let x79 : List Int := (v.2 ++ ([(0 : Int)] : List Int))
    some (x79)

noncomputable def k47_0 : List (Known Try.prog E) := []
noncomputable def L47_0 (n id : Nat) (st : St G) : Option (List Int) := none
set_option maxRecDepth 100000 in
theorem e47_0 (n : Nat) (v : Bool × List Int) : ev Try.prog E (oracle k47_0) Try.f47.ntmps (fun x => mem x []) (L47_0 n) (finA Try.prog E Try.f47.results.toList [(.ptr 0 0 41 [(.own 2 5)])] w47_0.alts) 4000 [.code (Try.f47.body.getD .skip)] (argSt (v47_0.enc v)) = F47_0 v := by kernel_rfl
theorem ok47_0 : FnOk Try.prog E 47 v47_0.enc F47_0 w47_0.enc :=
  fn_known (fn := Try.f47) (c := (Try.f47.body.getD .skip)) Try.func47 (by kernel_rfl) rfl envOk (oracle_ok k47_0) mixed v47_0 F47_0 w47_0 [(.ptr 0 0 41 [(.own 2 5)])] [] 4000 L47_0 (by kernel_rfl)
    (fun _ h => nomatch h) (fun v _ h => ⟨0, (e47_0 _ v).trans h⟩) (fun _ => by kernel_rfl) (fun _ => by kernel_rfl) (fun _ _ => by kernel_rfl)
/- chicane/control.put -/
abbrev A22_0 : Type := (Int × Int × Int × Int × Int × Bool × Bool) × List Int
abbrev R22_0 : Type := List Int
def v22_0 : Pk G ((Int × Int × Int × Int × Int × Bool × Bool) × List Int) := (pk (Sh.snd (Sh.cons (Sh.ptr 0 0) (Sh.fst (Sh.cons (Sh.agg (Sh.cons (Sh.int .i64) (Sh.cons (Sh.int .i64) (Sh.cons (Sh.int .i64) (Sh.cons (Sh.int .i64) (Sh.cons (Sh.int .i64) (Sh.cons Sh.bool (Sh.fst (Sh.cons Sh.bool Sh.nil))))))))) Sh.nil)))) (Sh.snd (Sh.hfix 0 41 (Sh.snd (Sh.cons (Sh.osl 1) Sh.nil)) (Sh.fst (Sh.hrow 1 5 Sh.hnil)))))
def w22_0 : Wk G (List Int) := (Wk.one [] (Pk.snd (pk Sh.nil (Sh.snd (Sh.hfix 0 41 (Sh.snd (Sh.cons (Sh.osl 2) Sh.nil)) (Sh.fst (Sh.hrow 2 5 Sh.hnil)))))))
def c22_0_2 : Pk G (((Int × Int × Int × Int × Int) × Int) × (Int × Int × Int × Int × Int × Bool × Bool) × List Int) := (pk (Sh.snd (Sh.cons (Sh.ptr 0 0) (Sh.snd (Sh.cons (Sh.ptr 3 0) (Sh.cons (Sh.agg (Sh.cons (Sh.int .i64) (Sh.cons (Sh.int .i64) (Sh.cons (Sh.int .i64) (Sh.cons (Sh.int .i64) (Sh.fst (Sh.cons (Sh.int .i64) Sh.nil))))))) (Sh.fst (Sh.cons (Sh.int .i64) Sh.nil))))))) (Sh.hfix 3 29 (Sh.cons (Sh.int .i64) (Sh.cons (Sh.int .i64) (Sh.cons (Sh.int .i64) (Sh.cons (Sh.int .i64) (Sh.cons (Sh.int .i64) (Sh.cons Sh.bool (Sh.fst (Sh.cons Sh.bool Sh.nil)))))))) (Sh.snd (Sh.hfix 0 41 (Sh.snd (Sh.cons (Sh.osl 2) Sh.nil)) (Sh.fst (Sh.hrow 2 5 Sh.hnil))))))
def B22_0_2 (K : ((((Int × Int × Int × Int × Int) × Int) × (Int × Int × Int × Int × Int × Bool × Bool) × List Int) → Option (List Int))) (v : ((Int × Int × Int × Int × Int) × Int) × (Int × Int × Int × Int × Int × Bool × Bool) × List Int) : Option (List Int) :=
  bif (decide (v.1.2 < (5 : Int))) then
    (idx v.1.2 5).bind fun (x92 : Nat) =>
    (F46_0 ((List.getD [v.1.1.1, v.1.1.2.1, v.1.1.2.2.1, v.1.1.2.2.2.1, v.1.1.2.2.2.2] x92 0), v.2.2)).bind fun r93 =>
    let x94 : Int := (IntKind.wrap .i64 (v.1.2 + (1 : Int)))
    K ((v.1.1, x94), (v.2.1, r93))
  else
    (F47_0 (v.2.1.2.2.2.2.2.1, v.2.2)).bind fun r95 =>
    (F47_0 (v.2.1.2.2.2.2.2.2, r95)).bind fun r96 =>
    some (r96)

def E22_0 (K : ((((Int × Int × Int × Int × Int) × Int) × (Int × Int × Int × Int × Int × Bool × Bool) × List Int) → Option (List Int))) (v : (Int × Int × Int × Int × Int × Bool × Bool) × List Int) : Option (List Int) :=
  let x90 : Int := (IntKind.wrap .i64 (v.1.2.2.2.1 + (127 : Int)))
  let x91 : Int := (IntKind.wrap .i64 (v.1.2.2.2.2.1 + (1 : Int)))
  K (((v.1.1, (v.1.2.1, (v.1.2.2.1, (x90, x91)))), (0 : Int)), v)

def K22_0 : Nat → ((((Int × Int × Int × Int × Int) × Int) × (Int × Int × Int × Int × Int × Bool × Bool) × List Int) → Option (List Int))
  | 0 => (fun _ => none)
  | n + 1 => (B22_0_2 (K22_0 n))
def fuel22_0 (v : (Int × Int × Int × Int × Int × Bool × Bool) × List Int) : Nat := 1000
def F22_0 (v : (Int × Int × Int × Int × Int × Bool × Bool) × List Int) : Option (List Int) := E22_0 (K22_0 (fuel22_0 v)) v
noncomputable def k22_0 : List (Known Try.prog E) := [Known.of envOk [5, 1] [(.ptr 0 0 41 [(.own 1 5)]), .keep] v46_0 F46_0 w46_0 ok46_0, Known.of envOk [5, 2] [(.ptr 0 0 41 [(.own 1 5)]), .keep] v47_0 F47_0 w47_0 ok47_0]
def s22_0_2 : List (Nat × Pat) := [(0, (.ptr 0 0 41 [])), (3, (.ptr 3 0 29 [.keep, .keep, .keep, .keep, .keep, .keep, .keep])), (18, (.agg [.keep, .keep, .keep, .keep, .keep])), (19, .keep)]
noncomputable def L22_0 (n id : Nat) (st : St G) : Option (List Int) := match Nat.beq id 2 with | true => cutK Try.prog s22_0_2 [(.ptr 0 0 41 [(.own 2 5)])] c22_0_2.dec (K22_0 n) st | false => none
set_option maxRecDepth 100000 in
theorem e22_0 (n : Nat) (v : (Int × Int × Int × Int × Int × Bool × Bool) × List Int) : ev Try.prog E (oracle k22_0) Try.f22.ntmps (fun x => mem x [2]) (L22_0 n) (finA Try.prog E Try.f22.results.toList [(.ptr 0 0 41 [(.own 2 5)])] w22_0.alts) 4000 [.code (Try.f22.body.getD .skip)] (argSt (v22_0.enc v)) = E22_0 (K22_0 n) v := by kernel_rfl
set_option maxRecDepth 100000 in
theorem b22_0_2 (n : Nat) (v : ((Int × Int × Int × Int × Int) × Int) × (Int × Int × Int × Int × Int × Bool × Bool) × List Int) : evCut Try.prog E (oracle k22_0) Try.f22.ntmps (fun x => mem x [2]) (L22_0 n) (finA Try.prog E Try.f22.results.toList [(.ptr 0 0 41 [(.own 2 5)])] w22_0.alts) 4000 (todoAt (Try.f22.body.getD .skip) 2) (cutSt s22_0_2 (c22_0_2.enc v)) = B22_0_2 (K22_0 n) v := by kernel_rfl
theorem ok22_0 : FnOk Try.prog E 22 v22_0.enc F22_0 w22_0.enc :=
  fn_known (fn := Try.f22) (c := (Try.f22.body.getD .skip)) Try.func22 (by kernel_rfl) rfl envOk (oracle_ok k22_0) mixed v22_0 F22_0 w22_0 [(.ptr 0 0 41 [(.own 2 5)])] [2] 4000 L22_0 (by kernel_rfl)
    (List.forall_mem_cons.2 ⟨⟨_, s22_0_2, c22_0_2.dec, c22_0_2.enc, fun n => (K22_0 n), c22_0_2.ok, fun _ _ => rfl, fun _ => rfl, fun n v _ h => (b22_0_2 n v).trans h⟩, fun _ h => (nomatch h)⟩) (fun v _ h => ⟨fuel22_0 v, (e22_0 _ v).trans h⟩) (fun _ => by kernel_rfl) (fun _ => by kernel_rfl) (fun _ _ => by kernel_rfl)
/- slices.Clone[[]byte,byte] -/
abbrev A48_n : Type := Unit
abbrev R48_n : Type := List Int
def v48_n : Pk G Unit := (Pk.snd (pk (Sh.snd (Sh.cons Sh.nilsl Sh.nil)) Sh.hnil))
def w48_n : Wk G (List Int) := (Wk.one [(.own 0 5)] (Pk.snd (pk (Sh.snd (Sh.cons (Sh.osl 0) Sh.nil)) (Sh.fst (Sh.hrow 0 5 Sh.hnil)))))
def F48_n (v : Unit) : Option (List Int) :=
  some ([] : List Int)

noncomputable def k48_n : List (Known Try.prog E) := []
noncomputable def L48_n (n id : Nat) (st : St G) : Option (List Int) := none
set_option maxRecDepth 100000 in
theorem e48_n (n : Nat) (v : Unit) : ev Try.prog E (oracle k48_n) Try.f48.ntmps (fun x => mem x []) (L48_n n) (finA Try.prog E Try.f48.results.toList [] w48_n.alts) 4000 [.code (Try.f48.body.getD .skip)] (argSt (v48_n.enc v)) = F48_n v := by kernel_rfl
theorem ok48_n : FnOk Try.prog E 48 v48_n.enc F48_n w48_n.enc :=
  fn_known (fn := Try.f48) (c := (Try.f48.body.getD .skip)) Try.func48 (by kernel_rfl) rfl envOk (oracle_ok k48_n) mixed v48_n F48_n w48_n [] [] 4000 L48_n (by kernel_rfl)
    (fun _ h => nomatch h) (fun v _ h => ⟨0, (e48_n _ v).trans h⟩) (fun _ => by kernel_rfl) (fun _ => by kernel_rfl) (fun _ _ => by kernel_rfl)
/- slices.Clone[[]byte,byte] -/
abbrev A48_r : Type := List Int
abbrev R48_r : Type := List Int
def v48_r : Pk G (List Int) := (Pk.fst (pk (Sh.fst (Sh.cons (Sh.rosn 5) Sh.nil)) Sh.hnil))
def w48_r : Wk G (List Int) := (Wk.one [(.own 0 5)] (Pk.snd (pk (Sh.snd (Sh.cons (Sh.osl 0) Sh.nil)) (Sh.fst (Sh.hrow 0 5 Sh.hnil)))))
def F48_r (v : List Int) : Option (List Int) :=
  (chk (decide (((([] : List Int)).length + (v).length) * 1 ≤ 140737488355328))).bind fun _ =>
  let x101 : List Int := (([] : List Int) ++ v)
  some (x101)

noncomputable def k48_r : List (Known Try.prog E) := []
noncomputable def L48_r (n id : Nat) (st : St G) : Option (List Int) := none
set_option maxRecDepth 100000 in
theorem e48_r (n : Nat) (v : List Int) : ev Try.prog E (oracle k48_r) Try.f48.ntmps (fun x => mem x []) (L48_r n) (finA Try.prog E Try.f48.results.toList [] w48_r.alts) 4000 [.code (Try.f48.body.getD .skip)] (argSt (v48_r.enc v)) = F48_r v := by kernel_rfl
theorem ok48_r : FnOk Try.prog E 48 v48_r.enc F48_r w48_r.enc :=
  fn_known (fn := Try.f48) (c := (Try.f48.body.getD .skip)) Try.func48 (by kernel_rfl) rfl envOk (oracle_ok k48_r) mixed v48_r F48_r w48_r [] [] 4000 L48_r (by kernel_rfl)
    (fun _ h => nomatch h) (fun v _ h => ⟨0, (e48_r _ v).trans h⟩) (fun _ => by kernel_rfl) (fun _ => by kernel_rfl) (fun _ _ => by kernel_rfl)
/- slices.Clone[[]byte,byte] -/
abbrev A48_0 : Type := List Int
abbrev R48_0 : Type := List Int
def v48_0 : Pk G (List Int) := (Pk.fst (pk (Sh.fst (Sh.cons (Sh.ros 5) Sh.nil)) Sh.hnil))
def w48_0 : Wk G (List Int) := (Wk.one [(.own 0 5)] (Pk.snd (pk (Sh.snd (Sh.cons (Sh.osl 0) Sh.nil)) (Sh.fst (Sh.hrow 0 5 Sh.hnil)))))
def F48_0 (v : List Int) : Option (List Int) := F48_r v
theorem on48_0 : FnOk Try.prog E 48 (fun _ : Unit => ([AV.nilsl], [])) F48_n w48_0.enc := ok48_n
theorem or48_0 : FnOk Try.prog E 48 (fun xs : List (G 5) => ([AV.rosn 5 xs], [])) F48_r w48_0.enc := ok48_r
theorem ok48_0 : FnOk Try.prog E 48 v48_0.enc F48_0 w48_0.enc := FnOk.split (e := 5) on48_0 or48_0 (fun _ h => (by kernel_rfl : F48_n () = F48_r []).trans h) (fun _ _ h => h)
/- (*chicane/wire.Out).Bytes -/
abbrev A23_0 : Type := List Int
abbrev R23_0 : Type := List Int × List Int
def v23_0 : Pk G (List Int) := (Pk.snd (pk (Sh.snd (Sh.cons (Sh.ptr 0 0) Sh.nil)) (Sh.snd (Sh.hfix 0 41 (Sh.snd (Sh.cons (Sh.osl 1) Sh.nil)) (Sh.fst (Sh.hrow 1 5 Sh.hnil))))))
def w23_0 : Wk G (List Int × List Int) := (Wk.one [(.own 2 5)] (Pk.snd (pk (Sh.snd (Sh.cons (Sh.osl 2) Sh.nil)) (Sh.hrow 2 5 (Sh.snd (Sh.hfix 0 41 (Sh.snd (Sh.cons (Sh.osl 1) Sh.nil)) (Sh.fst (Sh.hrow 1 5 Sh.hnil))))))))
def F23_0 (v : List Int) : Option (List Int × List Int) :=
  (F48_0 v).bind fun r104 =>
  some (r104, v)

noncomputable def k23_0 : List (Known Try.prog E) := [Known.of envOk [7] [(.ros 5)] v48_0 F48_0 w48_0 ok48_0]
noncomputable def L23_0 (n id : Nat) (st : St G) : Option (List Int × List Int) := none
set_option maxRecDepth 100000 in
theorem e23_0 (n : Nat) (v : List Int) : ev Try.prog E (oracle k23_0) Try.f23.ntmps (fun x => mem x []) (L23_0 n) (finA Try.prog E Try.f23.results.toList [(.own 1 5), (.ptr 0 0 41 [(.own 1 5)])] w23_0.alts) 4000 [.code (Try.f23.body.getD .skip)] (argSt (v23_0.enc v)) = F23_0 v := by kernel_rfl
theorem ok23_0 : FnOk Try.prog E 23 v23_0.enc F23_0 w23_0.enc :=
  fn_known (fn := Try.f23) (c := (Try.f23.body.getD .skip)) Try.func23 (by kernel_rfl) rfl envOk (oracle_ok k23_0) mixed v23_0 F23_0 w23_0 [(.own 1 5), (.ptr 0 0 41 [(.own 1 5)])] [] 4000 L23_0 (by kernel_rfl)
    (fun _ h => nomatch h) (fun v _ h => ⟨0, (e23_0 _ v).trans h⟩) (fun _ => by kernel_rfl) (fun _ => by kernel_rfl) (fun _ _ => by kernel_rfl)
/- chicane/control.Encode -/
abbrev A8_0 : Type := List (Int × Int × Int × Int × Int × Bool × Bool)
abbrev R8_0 : Type := Int × List Int
def v8_0 : Pk G (List (Int × Int × Int × Int × Int × Bool × Bool)) := (Pk.fst (pk (Sh.fst (Sh.cons (Sh.ros 29) Sh.nil)) Sh.hnil))
def w8_0 : Wk G (Int × List Int) := (Wk.one [(.own 0 5), .keep] (pk (Sh.snd (Sh.cons (Sh.osl 0) (Sh.fst (Sh.cons (Sh.int .i64) Sh.nil)))) (Sh.fst (Sh.hrow 0 5 Sh.hnil))))
def c8_0_7 : Pk G (((List (Int × Int × Int × Int × Int × Bool × Bool)) × Int × Int) × List Int) := (pk (Sh.snd (Sh.cons (Sh.ptr 0 0) (Sh.cons (Sh.ros 29) (Sh.cons (Sh.int .i64) (Sh.fst (Sh.cons (Sh.int .i64) Sh.nil)))))) (Sh.snd (Sh.hfix 0 41 (Sh.snd (Sh.cons (Sh.osl 1) Sh.nil)) (Sh.fst (Sh.hrow 1 5 Sh.hnil)))))
def B8_0_7 (K : ((((List (Int × Int × Int × Int × Int × Bool × Bool)) × Int × Int) × List Int) → Option (Int × List Int))) (v : ((List (Int × Int × Int × Int × Int × Bool × Bool)) × Int × Int) × List Int) : Option (Int × List Int) :=
  bif (decide (v.1.2.2 < v.1.2.1)) then
    (rdx v.1.1 v.1.2.2).bind fun (x116 : Int × Int × Int × Int × Int × Bool × Bool) =>
    (F10_0 x116).bind fun r117 =>
    bif (r117 != (0 : Int)) then
      some (r117, ([] : List Int))
    else
      (F22_0 (x116, v.2)).bind fun r118 =>
      let x119 : Int := (IntKind.wrap .i64 (v.1.2.2 + (1 : Int)))
      K ((v.1.1, (v.1.2.1, x119)), r118)
  else
    (F23_0 v.2).bind fun r120 =>
    some ((0 : Int), r120.1)

def E8_0 (K : ((((List (Int × Int × Int × Int × Int × Bool × Bool)) × Int × Int) × List Int) → Option (Int × List Int))) (v : List (Int × Int × Int × Int × Int × Bool × Bool)) : Option (Int × List Int) :=
  bif (decide (((v).length : Int) > (16777216 : Int))) then
    some ((42 : Int), ([] : List Int))
  else
    (F20_0 (sc0, ([] : List Int))).bind fun r114 =>
    (F21_0 (((v).length : Int), r114)).bind fun r115 =>
    K ((v, (((v).length : Int), (0 : Int))), r115)

def K8_0 : Nat → ((((List (Int × Int × Int × Int × Int × Bool × Bool)) × Int × Int) × List Int) → Option (Int × List Int))
  | 0 => (fun _ => none)
  | n + 1 => (B8_0_7 (K8_0 n))
def fuel8_0 (v : List (Int × Int × Int × Int × Int × Bool × Bool)) : Nat := 1000
def F8_0 (v : List (Int × Int × Int × Int × Int × Bool × Bool)) : Option (Int × List Int) := E8_0 (K8_0 (fuel8_0 v)) v
noncomputable def k8_0 : List (Known Try.prog E) := [Known.of envOk [5, 3] [(.ptr 0 0 41 [(.own 1 5)]), .keep] v20_0 F20_0 w20_0 ok20_0, Known.of envOk [5, 1] [(.ptr 0 0 41 [(.own 1 5)]), .keep] v21_0 F21_0 w21_0 ok21_0, Known.of envOk [9] [(.agg [.keep, .keep, .keep, .keep, .keep, .keep, .keep])] v10_0 F10_0 w10_0 ok10_0, Known.of envOk [5, 9] [(.ptr 0 0 41 [(.own 1 5)]), (.agg [.keep, .keep, .keep, .keep, .keep, .keep, .keep])] v22_0 F22_0 w22_0 ok22_0, Known.of envOk [5] [(.ptr 0 0 41 [(.own 1 5)])] v23_0 F23_0 w23_0 ok23_0]
def s8_0_7 : List (Nat × Pat) := [(4, (.ptr 0 0 41 [(.own 1 5)])), (19, (.ros 29)), (20, .keep), (21, .keep)]
noncomputable def L8_0 (n id : Nat) (st : St G) : Option (Int × List Int) := match Nat.beq id 7 with | true => cutK Try.prog s8_0_7 [] c8_0_7.dec (K8_0 n) st | false => none
set_option maxRecDepth 100000 in
theorem e8_0 (n : Nat) (v : List (Int × Int × Int × Int × Int × Bool × Bool)) : ev Try.prog E (oracle k8_0) Try.f8.ntmps (fun x => mem x [7]) (L8_0 n) (finA Try.prog E Try.f8.results.toList [] w8_0.alts) 4000 [.code (Try.f8.body.getD .skip)] (argSt (v8_0.enc v)) = E8_0 (K8_0 n) v := by kernel_rfl
set_option maxRecDepth 100000 in
theorem b8_0_7 (n : Nat) (v : ((List (Int × Int × Int × Int × Int × Bool × Bool)) × Int × Int) × List Int) : evCut Try.prog E (oracle k8_0) Try.f8.ntmps (fun x => mem x [7]) (L8_0 n) (finA Try.prog E Try.f8.results.toList [] w8_0.alts) 4000 (todoAt (Try.f8.body.getD .skip) 7) (cutSt s8_0_7 (c8_0_7.enc v)) = B8_0_7 (K8_0 n) v := by kernel_rfl
theorem ok8_0 : FnOk Try.prog E 8 v8_0.enc F8_0 w8_0.enc :=
  fn_known (fn := Try.f8) (c := (Try.f8.body.getD .skip)) Try.func8 (by kernel_rfl) rfl envOk (oracle_ok k8_0) mixed v8_0 F8_0 w8_0 [] [7] 4000 L8_0 (by kernel_rfl)
    (List.forall_mem_cons.2 ⟨⟨_, s8_0_7, c8_0_7.dec, c8_0_7.enc, fun n => (K8_0 n), c8_0_7.ok, fun _ _ => rfl, fun _ => rfl, fun n v _ h => (b8_0_7 n v).trans h⟩, fun _ h => (nomatch h)⟩) (fun v _ h => ⟨fuel8_0 v, (e8_0 _ v).trans h⟩) (fun _ => by kernel_rfl) (fun _ => by kernel_rfl) (fun _ _ => by kernel_rfl)
/- chicane/chicaneref10.Mark -/
abbrev A24_0 : Type := ByteArray
abbrev R24_0 : Type := List Int
def v24_0 : Pk G ByteArray := (Pk.fst (pk (Sh.fst (Sh.cons Sh.str Sh.nil)) Sh.hnil))
def w24_0 : Wk G (List Int) := (Wk.one [(.own 0 5)] (Pk.snd (pk (Sh.snd (Sh.cons (Sh.osl 0) Sh.nil)) (Sh.fst (Sh.hrow 0 5 Sh.hnil)))))
def c24_0_3 : Pk G ((ByteArray × Int) × List Int) := (pk (Sh.cons Sh.str (Sh.snd (Sh.cons (Sh.osl 0) (Sh.fst (Sh.cons (Sh.int .i64) Sh.nil))))) (Sh.fst (Sh.hrow 0 5 Sh.hnil)))
def B24_0_3 (K : (((ByteArray × Int) × List Int) → Option (List Int))) (v : (ByteArray × Int) × List Int) : Option (List Int) :=
  bif (decide (v.1.2 < (4 : Int))) then
    bif (decide (v.1.2 < ((v.1.1).size : Int))) then
      (rdb v.1.1 v.1.2).bind fun (x134 : UInt8) =>
      (chk (decide (((v.2).length + (([(x134.toNat : Int)] : List Int)).length) * 1 ≤ 140737488355328))).bind fun _ =>
      let x135 : List Int := (v.2 ++ ([(x134.toNat : Int)] : List Int))
      let x136 : Int := (IntKind.wrap .i64 (v.1.2 + (1 : Int)))
      K ((v.1.1, x136), x135)
    else
      (chk (decide (((v.2).length + (([(0 : Int)] : List Int)).length) * 1 ≤ 140737488355328))).bind fun _ =>
      let x137 : List Int := (v.2 ++ ([(0 : Int)] : List Int))
      let x138 : Int := (IntKind.wrap .i64 (v.1.2 + (1 : Int)))
      K ((v.1.1, x138), x137)
  else
    some (v.2)

def E24_0 (K : (((ByteArray × Int) × List Int) → Option (List Int))) (v : ByteArray) : Option (List Int) :=
  K ((v, (0 : Int)), ([] : List Int))

def K24_0 : Nat → (((ByteArray × Int) × List Int) → Option (List Int))
  | 0 => (fun _ => none)
  | n + 1 => (B24_0_3 (K24_0 n))
def fuel24_0 (v : ByteArray) : Nat := 1000
def F24_0 (v : ByteArray) : Option (List Int) := E24_0 (K24_0 (fuel24_0 v)) v
noncomputable def k24_0 : List (Known Try.prog E) := []
def s24_0_3 : List (Nat × Pat) := [(0, .keep), (3, (.own 0 5)), (4, .keep)]
noncomputable def L24_0 (n id : Nat) (st : St G) : Option (List Int) := match Nat.beq id 3 with | true => cutK Try.prog s24_0_3 [] c24_0_3.dec (K24_0 n) st | false => none
set_option maxRecDepth 100000 in
theorem e24_0 (n : Nat) (v : ByteArray) : ev Try.prog E (oracle k24_0) Try.f24.ntmps (fun x => mem x [3]) (L24_0 n) (finA Try.prog E Try.f24.results.toList [] w24_0.alts) 4000 [.code (Try.f24.body.getD .skip)] (argSt (v24_0.enc v)) = E24_0 (K24_0 n) v := by kernel_rfl
set_option maxRecDepth 100000 in
theorem b24_0_3 (n : Nat) (v : (ByteArray × Int) × List Int) : evCut Try.prog E (oracle k24_0) Try.f24.ntmps (fun x => mem x [3]) (L24_0 n) (finA Try.prog E Try.f24.results.toList [] w24_0.alts) 4000 (todoAt (Try.f24.body.getD .skip) 3) (cutSt s24_0_3 (c24_0_3.enc v)) = B24_0_3 (K24_0 n) v := by kernel_rfl
theorem ok24_0 : FnOk Try.prog E 24 v24_0.enc F24_0 w24_0.enc :=
  fn_known (fn := Try.f24) (c := (Try.f24.body.getD .skip)) Try.func24 (by kernel_rfl) rfl envOk (oracle_ok k24_0) mixed v24_0 F24_0 w24_0 [] [3] 4000 L24_0 (by kernel_rfl)
    (List.forall_mem_cons.2 ⟨⟨_, s24_0_3, c24_0_3.dec, c24_0_3.enc, fun n => (K24_0 n), c24_0_3.ok, fun _ _ => rfl, fun _ => rfl, fun n v _ h => (b24_0_3 n v).trans h⟩, fun _ h => (nomatch h)⟩) (fun v _ h => ⟨fuel24_0 v, (e24_0 _ v).trans h⟩) (fun _ => by kernel_rfl) (fun _ => by kernel_rfl) (fun _ _ => by kernel_rfl)
/- chicane/chicaneref10.Num -/
abbrev A25_0 : Type := Int
abbrev R25_0 : Type := List Int
def v25_0 : Pk G Int := (Pk.fst (pk (Sh.fst (Sh.cons (Sh.int .i64) Sh.nil)) Sh.hnil))
def w25_0 : Wk G (List Int) := (Wk.one [(.own 0 5)] (Pk.snd (pk (Sh.snd (Sh.cons (Sh.osl 0) Sh.nil)) (Sh.fst (Sh.hrow 0 5 Sh.hnil)))))
def c25_0_4 : Pk G ((Int × Int) × List Int) := (pk (Sh.snd (Sh.cons (Sh.osl 0) (Sh.cons (Sh.int .u64) (Sh.fst (Sh.cons (Sh.int .i64) Sh.nil))))) (Sh.fst (Sh.hrow 0 5 Sh.hnil)))
def B25_0_4 (K : (((Int × Int) × List Int) → Option (List Int))) (v : (Int × Int) × List Int) : Option (List Int) :=
  bif (decide (v.1.2 < (8 : Int))) then
    let x155 : Int := (Int.tmod v.1.1 (256 : Int))
    let x156 : Int := (IntKind.wrap .u8 x155)
    (chk (decide (((v.2).length + (([x156] : List Int)).length) * 1 ≤ 140737488355328))).bind fun _ =>
    let x157 : List Int := (v.2 ++ ([x156] : List Int))
    let x158 : Int := (IntKind.wrap .u64 (Int.tdiv v.1.1 (256 : Int)))
    let x159 : Int := (IntKind.wrap .i64 (v.1.2 + (1 : Int)))
    K ((x158, x159), x157)
  else
    some (v.2)

def E25_0 (K : (((Int × Int) × List Int) → Option (List Int))) (v : Int) : Option (List Int) :=
  let x154 : Int := (IntKind.wrap .u64 v)
  K ((x154, (0 : Int)), ([] : List Int))

def K25_0 : Nat → (((Int × Int) × List Int) → Option (List Int))
  | 0 => (fun _ => none)
  | n + 1 => (B25_0_4 (K25_0 n))
def fuel25_0 (v : Int) : Nat := 1000
def F25_0 (v : Int) : Option (List Int) := E25_0 (K25_0 (fuel25_0 v)) v
noncomputable def k25_0 : List (Known Try.prog E) := []
def s25_0_4 : List (Nat × Pat) := [(3, (.own 0 5)), (4, .keep), (5, .keep)]
noncomputable def L25_0 (n id : Nat) (st : St G) : Option (List Int) := match Nat.beq id 4 with | true => cutK Try.prog s25_0_4 [] c25_0_4.dec (K25_0 n) st | false => none
set_option maxRecDepth 100000 in
theorem e25_0 (n : Nat) (v : Int) : ev Try.prog E (oracle k25_0) Try.f25.ntmps (fun x => mem x [4]) (L25_0 n) (finA Try.prog E Try.f25.results.toList [] w25_0.alts) 4000 [.code (Try.f25.body.getD .skip)] (argSt (v25_0.enc v)) = E25_0 (K25_0 n) v := by kernel_rfl
set_option maxRecDepth 100000 in
theorem b25_0_4 (n : Nat) (v : (Int × Int) × List Int) : evCut Try.prog E (oracle k25_0) Try.f25.ntmps (fun x => mem x [4]) (L25_0 n) (finA Try.prog E Try.f25.results.toList [] w25_0.alts) 4000 (todoAt (Try.f25.body.getD .skip) 4) (cutSt s25_0_4 (c25_0_4.enc v)) = B25_0_4 (K25_0 n) v := by kernel_rfl
theorem ok25_0 : FnOk Try.prog E 25 v25_0.enc F25_0 w25_0.enc :=
  fn_known (fn := Try.f25) (c := (Try.f25.body.getD .skip)) Try.func25 (by kernel_rfl) rfl envOk (oracle_ok k25_0) mixed v25_0 F25_0 w25_0 [] [4] 4000 L25_0 (by kernel_rfl)
    (List.forall_mem_cons.2 ⟨⟨_, s25_0_4, c25_0_4.dec, c25_0_4.enc, fun n => (K25_0 n), c25_0_4.ok, fun _ _ => rfl, fun _ => rfl, fun n v _ h => (b25_0_4 n v).trans h⟩, fun _ h => (nomatch h)⟩) (fun v _ h => ⟨fuel25_0 v, (e25_0 _ v).trans h⟩) (fun _ => by kernel_rfl) (fun _ => by kernel_rfl) (fun _ _ => by kernel_rfl)
/- chicane/chicaneref19.in -/
abbrev A28_0 : Type := Int × Int × Int
abbrev R28_0 : Type := Bool
def v28_0 : Pk G (Int × Int × Int) := (Pk.fst (pk (Sh.cons (Sh.int .i64) (Sh.cons (Sh.int .i64) (Sh.fst (Sh.cons (Sh.int .i64) Sh.nil)))) Sh.hnil))
def w28_0 : Wk G Bool := (Wk.one [.keep] (Pk.fst (pk (Sh.fst (Sh.cons Sh.bool Sh.nil)) Sh.hnil)))
def F28_0 (v : Int × Int × Int) : Option Bool :=
  bif (decide (v.1 ≥ v.2.1)) then
    some (decide (v.1 ≤ v.2.2))
  else
    some (false)

noncomputable def k28_0 : List (Known Try.prog E) := []
noncomputable def L28_0 (n id : Nat) (st : St G) : Option Bool := none
set_option maxRecDepth 100000 in
theorem e28_0 (n : Nat) (v : Int × Int × Int) : ev Try.prog E (oracle k28_0) Try.f28.ntmps (fun x => mem x []) (L28_0 n) (finA Try.prog E Try.f28.results.toList [] w28_0.alts) 4000 [.code (Try.f28.body.getD .skip)] (argSt (v28_0.enc v)) = F28_0 v := by kernel_rfl
theorem ok28_0 : FnOk Try.prog E 28 v28_0.enc F28_0 w28_0.enc :=
  fn_known (fn := Try.f28) (c := (Try.f28.body.getD .skip)) Try.func28 (by kernel_rfl) rfl envOk (oracle_ok k28_0) mixed v28_0 F28_0 w28_0 [] [] 4000 L28_0 (by kernel_rfl)
    (fun _ h => nomatch h) (fun v _ h => ⟨0, (e28_0 _ v).trans h⟩) (fun _ => by kernel_rfl) (fun _ => by kernel_rfl) (fun _ _ => by kernel_rfl)
/- chicane/chicaneref19.Right -/
abbrev A11_0 : Type := Int × Int × Int × Int × Int × Bool × Bool
abbrev R11_0 : Type := Int
def v11_0 : Pk G (Int × Int × Int × Int × Int × Bool × Bool) := (Pk.fst (pk (Sh.fst (Sh.cons (Sh.agg (Sh.cons (Sh.int .i64) (Sh.cons (Sh.int .i64) (Sh.cons (Sh.int .i64) (Sh.cons (Sh.int .i64) (Sh.cons (Sh.int .i64) (Sh.cons Sh.bool (Sh.fst (Sh.cons Sh.bool Sh.nil))))))))) Sh.nil)) Sh.hnil))
def w11_0 : Wk G Int := (Wk.one [.keep] (Pk.fst (pk (Sh.fst (Sh.cons (Sh.int .i64) Sh.nil)) Sh.hnil)))
def F11_0 (v : Int × Int × Int × Int × Int × Bool × Bool) : Option Int :=
  (F28_0 (v.1, ((0 : Int), (255 : Int)))).bind fun r174 =>
  bif r174 then
    (F28_0 (v.2.1, ((0 : Int), (255 : Int)))).bind fun r175 =>
    bif r175 then
      (F28_0 (v.2.2.1, ((0 : Int), (255 : Int)))).bind fun r176 =>
      bif r176 then
        (F28_0 (v.2.2.2.1, ((-127 : Int), (127 : Int)))).bind fun r177 =>
        bif r177 then
          (F28_0 (v.2.2.2.2.1, ((-1 : Int), (8 : Int)))).bind fun r178 =>
          bif r178 then
            some (0 : Int)
          else
            some (40 : Int)
        else
          some (40 : Int)
      else
        some (40 : Int)
    else
      some (40 : Int)
  else
    some (40 : Int)

noncomputable def k11_0 : List (Known Try.prog E) := [Known.of envOk [1, 1, 1] [.keep, .keep, .keep] v28_0 F28_0 w28_0 ok28_0]
noncomputable def L11_0 (n id : Nat) (st : St G) : Option Int := none
set_option maxRecDepth 100000 in
theorem e11_0 (n : Nat) (v : Int × Int × Int × Int × Int × Bool × Bool) : ev Try.prog E (oracle k11_0) Try.f11.ntmps (fun x => mem x []) (L11_0 n) (finA Try.prog E Try.f11.results.toList [] w11_0.alts) 4000 [.code (Try.f11.body.getD .skip)] (argSt (v11_0.enc v)) = F11_0 v := by kernel_rfl
theorem ok11_0 : FnOk Try.prog E 11 v11_0.enc F11_0 w11_0.enc :=
  fn_known (fn := Try.f11) (c := (Try.f11.body.getD .skip)) Try.func11 (by kernel_rfl) rfl envOk (oracle_ok k11_0) mixed v11_0 F11_0 w11_0 [] [] 4000 L11_0 (by kernel_rfl)
    (fun _ h => nomatch h) (fun v _ h => ⟨0, (e11_0 _ v).trans h⟩) (fun _ => by kernel_rfl) (fun _ => by kernel_rfl) (fun _ _ => by kernel_rfl)
/- chicane/chicaneref10.Count -/
abbrev A49_0 : Type := Int
abbrev R49_0 : Type := List Int
def v49_0 : Pk G Int := (Pk.fst (pk (Sh.fst (Sh.cons (Sh.int .i64) Sh.nil)) Sh.hnil))
def w49_0 : Wk G (List Int) := (Wk.one [(.own 0 5)] (Pk.snd (pk (Sh.snd (Sh.cons (Sh.osl 0) Sh.nil)) (Sh.fst (Sh.hrow 0 5 Sh.hnil)))))
def F49_0 (v : Int) : Option (List Int) :=
  let x193 : Int := (IntKind.wrap .u64 v)
  let x194 : Int := (Int.tmod x193 (256 : Int))
  let x195 : Int := (IntKind.wrap .u8 x194)
  let x196 : Int := (IntKind.wrap .u64 (Int.tdiv x193 (256 : Int)))
  let x197 : Int := (Int.tmod x196 (256 : Int))
  let x198 : Int := (IntKind.wrap .u8 x197)
  some ([x195, x198] : List Int)

noncomputable def k49_0 : List (Known Try.prog E) := []
noncomputable def L49_0 (n id : Nat) (st : St G) : Option (List Int) := none
set_option maxRecDepth 100000 in
theorem e49_0 (n : Nat) (v : Int) : ev Try.prog E (oracle k49_0) Try.f49.ntmps (fun x => mem x []) (L49_0 n) (finA Try.prog E Try.f49.results.toList [] w49_0.alts) 4000 [.code (Try.f49.body.getD .skip)] (argSt (v49_0.enc v)) = F49_0 v := by kernel_rfl
theorem ok49_0 : FnOk Try.prog E 49 v49_0.enc F49_0 w49_0.enc :=
  fn_known (fn := Try.f49) (c := (Try.f49.body.getD .skip)) Try.func49 (by kernel_rfl) rfl envOk (oracle_ok k49_0) mixed v49_0 F49_0 w49_0 [] [] 4000 L49_0 (by kernel_rfl)
    (fun _ h => nomatch h) (fun v _ h => ⟨0, (e49_0 _ v).trans h⟩) (fun _ => by kernel_rfl) (fun _ => by kernel_rfl) (fun _ _ => by kernel_rfl)
/- chicane/chicaneref10.Flag -/
abbrev A50_0 : Type := Bool
abbrev R50_0 : Type := List Int
def v50_0 : Pk G Bool := (Pk.fst (pk (Sh.fst (Sh.cons Sh.bool Sh.nil)) Sh.hnil))
def w50_0 : Wk G (List Int) := (Wk.one [(.own 0 5)] (Pk.snd (pk (Sh.snd (Sh.cons (Sh.osl 0) Sh.nil)) (Sh.fst (Sh.hrow 0 5 Sh.hnil)))))
def F50_0 (v : Bool) : Option (List Int) :=
  bif v then
    some ([(1 : Int)] : List Int)
  else
    some ([(0 : Int)] : List Int)

noncomputable def k50_0 : List (Known Try.prog E) := []
noncomputable def L50_0 (n id : Nat) (st : St G) : Option (List Int) := none
set_option maxRecDepth 100000 in
theorem e50_0 (n : Nat) (v : Bool) : ev Try.prog E (oracle k50_0) Try.f50.ntmps (fun x => mem x []) (L50_0 n) (finA Try.prog E Try.f50.results.toList [] w50_0.alts) 4000 [.code (Try.f50.body.getD .skip)] (argSt (v50_0.enc v)) = F50_0 v := by kernel_rfl
theorem ok50_0 : FnOk Try.prog E 50 v50_0.enc F50_0 w50_0.enc :=
  fn_known (fn := Try.f50) (c := (Try.f50.body.getD .skip)) Try.func50 (by kernel_rfl) rfl envOk (oracle_ok k50_0) mixed v50_0 F50_0 w50_0 [] [] 4000 L50_0 (by kernel_rfl)
    (fun _ h => nomatch h) (fun v _ h => ⟨0, (e50_0 _ v).trans h⟩) (fun _ => by kernel_rfl) (fun _ => by kernel_rfl) (fun _ _ => by kernel_rfl)
/- chicane/chicaneref19.one -/
abbrev A26_0 : Type := Int × Int × Int × Int × Int × Bool × Bool
abbrev R26_0 : Type := List Int
def v26_0 : Pk G (Int × Int × Int × Int × Int × Bool × Bool) := (Pk.fst (pk (Sh.fst (Sh.cons (Sh.agg (Sh.cons (Sh.int .i64) (Sh.cons (Sh.int .i64) (Sh.cons (Sh.int .i64) (Sh.cons (Sh.int .i64) (Sh.cons (Sh.int .i64) (Sh.cons Sh.bool (Sh.fst (Sh.cons Sh.bool Sh.nil))))))))) Sh.nil)) Sh.hnil))
def w26_0 : Wk G (List Int) := (Wk.one [(.own 0 5)] (Pk.snd (pk (Sh.snd (Sh.cons (Sh.osl 0) Sh.nil)) (Sh.fst (Sh.hrow 0 5 Sh.hnil)))))
def F26_0 (v : Int × Int × Int × Int × Int × Bool × Bool) : Option (List Int) :=
  (F49_0 v.1).bind fun r229 =>
  (F49_0 v.2.1).bind fun r230 =>
  (chk (decide (((r229).length + (r230).length) * 1 ≤ 140737488355328))).bind fun _ =>
  let x231 : List Int := (r229 ++ r230)
  (F49_0 v.2.2.1).bind fun r232 =>
  (chk (decide (((x231).length + (r232).length) * 1 ≤ 140737488355328))).bind fun _ =>
  let x233 : List Int := (x231 ++ r232)
  let x234 : Int := (IntKind.wrap .i64 (v.2.2.2.1 + (127 : Int)))
  (F49_0 x234).bind fun r235 =>
  (chk (decide (((x233).length + (r235).length) * 1 ≤ 140737488355328))).bind fun _ =>
  let x236 : List Int := (x233 ++ r235)
  let x237 : Int := (IntKind.wrap .i64 (v.2.2.2.2.1 + (1 : Int)))
  (F49_0 x237).bind fun r238 =>
  (chk (decide (((x236).length + (r238).length) * 1 ≤ 140737488355328))).bind fun _ =>
  let x239 : List Int := (x236 ++ r238)
  (F50_0 v.2.2.2.2.2.1).bind fun r240 =>
  (chk (decide (((x239).length + (r240).length) * 1 ≤ 140737488355328))).bind fun _ =>
  let x241 : List Int := (x239 ++ r240)
  (F50_0 v.2.2.2.2.2.2).bind fun r242 =>
  (chk (decide (((x241).length + (r242).length) * 1 ≤ 140737488355328))).bind fun _ =>
  let x243 : List Int := (x241 ++ r242)
  some (x243)

noncomputable def k26_0 : List (Known Try.prog E) := [Known.of envOk [1] [.keep] v49_0 F49_0 w49_0 ok49_0, Known.of envOk [2] [.keep] v50_0 F50_0 w50_0 ok50_0]
noncomputable def L26_0 (n id : Nat) (st : St G) : Option (List Int) := none
set_option maxRecDepth 100000 in
theorem e26_0 (n : Nat) (v : Int × Int × Int × Int × Int × Bool × Bool) : ev Try.prog E (oracle k26_0) Try.f26.ntmps (fun x => mem x []) (L26_0 n) (finA Try.prog E Try.f26.results.toList [] w26_0.alts) 4000 [.code (Try.f26.body.getD .skip)] (argSt (v26_0.enc v)) = F26_0 v := by kernel_rfl
theorem ok26_0 : FnOk Try.prog E 26 v26_0.enc F26_0 w26_0.enc :=
  fn_known (fn := Try.f26) (c := (Try.f26.body.getD .skip)) Try.func26 (by kernel_rfl) rfl envOk (oracle_ok k26_0) mixed v26_0 F26_0 w26_0 [] [] 4000 L26_0 (by kernel_rfl)
    (fun _ h => nomatch h) (fun v _ h => ⟨0, (e26_0 _ v).trans h⟩) (fun _ => by kernel_rfl) (fun _ => by kernel_rfl) (fun _ _ => by kernel_rfl)
/- chicane/chicaneref19.Encode -/
abbrev A9_0 : Type := List (Int × Int × Int × Int × Int × Bool × Bool)
abbrev R9_0 : Type := Int × List Int
def v9_0 : Pk G (List (Int × Int × Int × Int × Int × Bool × Bool)) := (Pk.fst (pk (Sh.fst (Sh.cons (Sh.ros 29) Sh.nil)) Sh.hnil))
def w9_0 : Wk G (Int × List Int) := (Wk.one [(.own 0 5), .keep] (pk (Sh.snd (Sh.cons (Sh.osl 0) (Sh.fst (Sh.cons (Sh.int .i64) Sh.nil)))) (Sh.fst (Sh.hrow 0 5 Sh.hnil))))
def c9_0_5 : Pk G (((List (Int × Int × Int × Int × Int × Bool × Bool)) × Int) × List Int) := (pk (Sh.cons (Sh.ros 29) (Sh.snd (Sh.cons (Sh.osl 0) (Sh.fst (Sh.cons (Sh.int .i64) Sh.nil))))) (Sh.fst (Sh.hrow 0 5 Sh.hnil)))
def B9_0_5 (K : ((((List (Int × Int × Int × Int × Int × Bool × Bool)) × Int) × List Int) → Option (Int × List Int))) (v : ((List (Int × Int × Int × Int × Int × Bool × Bool)) × Int) × List Int) : Option (Int × List Int) :=
  bif (decide (v.1.2 < ((v.1.1).length : Int))) then
    (rdx v.1.1 v.1.2).bind fun (x260 : Int × Int × Int × Int × Int × Bool × Bool) =>
    (F11_0 x260).bind fun r261 =>
    bif (r261 != (0 : Int)) then
      some ((40 : Int), ([] : List Int))
    else
      (rdx v.1.1 v.1.2).bind fun (x262 : Int × Int × Int × Int × Int × Bool × Bool) =>
      (F26_0 x262).bind fun r263 =>
      (chk (decide (((v.2).length + (r263).length) * 1 ≤ 140737488355328))).bind fun _ =>
      let x264 : List Int := (v.2 ++ r263)
      let x265 : Int := (IntKind.wrap .i64 (v.1.2 + (1 : Int)))
      K ((v.1.1, x265), x264)
  else
    some ((0 : Int), v.2)

def E9_0 (K : ((((List (Int × Int × Int × Int × Int × Bool × Bool)) × Int) × List Int) → Option (Int × List Int))) (v : List (Int × Int × Int × Int × Int × Bool × Bool)) : Option (Int × List Int) :=
  bif (decide (((v).length : Int) > (16777216 : Int))) then
    some ((42 : Int), ([] : List Int))
  else
    (F24_0 sc0).bind fun r257 =>
    (F25_0 ((v).length : Int)).bind fun r258 =>
    (chk (decide (((r257).length + (r258).length) * 1 ≤ 140737488355328))).bind fun _ =>
    let x259 : List Int := (r257 ++ r258)
    K ((v, (0 : Int)), x259)

def K9_0 : Nat → ((((List (Int × Int × Int × Int × Int × Bool × Bool)) × Int) × List Int) → Option (Int × List Int))
  | 0 => (fun _ => none)
  | n + 1 => (B9_0_5 (K9_0 n))
def fuel9_0 (v : List (Int × Int × Int × Int × Int × Bool × Bool)) : Nat := 1000
def F9_0 (v : List (Int × Int × Int × Int × Int × Bool × Bool)) : Option (Int × List Int) := E9_0 (K9_0 (fuel9_0 v)) v
noncomputable def k9_0 : List (Known Try.prog E) := [Known.of envOk [3] [.keep] v24_0 F24_0 w24_0 ok24_0, Known.of envOk [1] [.keep] v25_0 F25_0 w25_0 ok25_0, Known.of envOk [9] [(.agg [.keep, .keep, .keep, .keep, .keep, .keep, .keep])] v11_0 F11_0 w11_0 ok11_0, Known.of envOk [9] [(.agg [.keep, .keep, .keep, .keep, .keep, .keep, .keep])] v26_0 F26_0 w26_0 ok26_0]
def s9_0_5 : List (Nat × Pat) := [(0, (.ros 29)), (4, (.own 0 5)), (5, .keep)]
noncomputable def L9_0 (n id : Nat) (st : St G) : Option (Int × List Int) := match Nat.beq id 5 with | true => cutK Try.prog s9_0_5 [] c9_0_5.dec (K9_0 n) st | false => none
set_option maxRecDepth 100000 in
theorem e9_0 (n : Nat) (v : List (Int × Int × Int × Int × Int × Bool × Bool)) : ev Try.prog E (oracle k9_0) Try.f9.ntmps (fun x => mem x [5]) (L9_0 n) (finA Try.prog E Try.f9.results.toList [] w9_0.alts) 4000 [.code (Try.f9.body.getD .skip)] (argSt (v9_0.enc v)) = E9_0 (K9_0 n) v := by kernel_rfl
set_option maxRecDepth 100000 in
theorem b9_0_5 (n : Nat) (v : ((List (Int × Int × Int × Int × Int × Bool × Bool)) × Int) × List Int) : evCut Try.prog E (oracle k9_0) Try.f9.ntmps (fun x => mem x [5]) (L9_0 n) (finA Try.prog E Try.f9.results.toList [] w9_0.alts) 4000 (todoAt (Try.f9.body.getD .skip) 5) (cutSt s9_0_5 (c9_0_5.enc v)) = B9_0_5 (K9_0 n) v := by kernel_rfl
theorem ok9_0 : FnOk Try.prog E 9 v9_0.enc F9_0 w9_0.enc :=
  fn_known (fn := Try.f9) (c := (Try.f9.body.getD .skip)) Try.func9 (by kernel_rfl) rfl envOk (oracle_ok k9_0) mixed v9_0 F9_0 w9_0 [] [5] 4000 L9_0 (by kernel_rfl)
    (List.forall_mem_cons.2 ⟨⟨_, s9_0_5, c9_0_5.dec, c9_0_5.enc, fun n => (K9_0 n), c9_0_5.ok, fun _ _ => rfl, fun _ => rfl, fun n v _ h => (b9_0_5 n v).trans h⟩, fun _ h => (nomatch h)⟩) (fun v _ h => ⟨fuel9_0 v, (e9_0 _ v).trans h⟩) (fun _ => by kernel_rfl) (fun _ => by kernel_rfl) (fun _ _ => by kernel_rfl)
/- chicane/wire.NewIn -/
abbrev A29_0 : Type := List Int
abbrev R29_0 : Type := (Int × Int × Int × Int) × List Int
def v29_0 : Pk G (List Int) := (Pk.fst (pk (Sh.fst (Sh.cons (Sh.ros 5) Sh.nil)) Sh.hnil))
def w29_0 : Wk G ((Int × Int × Int × Int) × List Int) := (Wk.one [(.ptr 0 0 77 [(.own 1 5), .keep, .keep, .keep, .keep])] (Pk.snd (pk (Sh.snd (Sh.cons (Sh.ptr 0 0) Sh.nil)) (Sh.hfix 0 77 (Sh.snd (Sh.cons (Sh.osl 1) (Sh.cons (Sh.int .i64) (Sh.cons (Sh.int .i64) (Sh.cons (Sh.int .i64) (Sh.fst (Sh.cons (Sh.int .i64) Sh.nil))))))) (Sh.fst (Sh.hrow 1 5 Sh.hnil))))))
def F29_0 (v : List Int) : Option ((Int × Int × Int × Int) × List Int) :=
  (F48_0 v).bind fun r278 =>
  some (((0 : Int), ((0 : Int), ((0 : Int), (0 : Int)))), r278)

noncomputable def k29_0 : List (Known Try.prog E) := [Known.of envOk [7] [(.ros 5)] v48_0 F48_0 w48_0 ok48_0]
noncomputable def L29_0 (n id : Nat) (st : St G) : Option ((Int × Int × Int × Int) × List Int) := none
set_option maxRecDepth 100000 in
theorem e29_0 (n : Nat) (v : List Int) : ev Try.prog E (oracle k29_0) Try.f29.ntmps (fun x => mem x []) (L29_0 n) (finA Try.prog E Try.f29.results.toList [] w29_0.alts) 4000 [.code (Try.f29.body.getD .skip)] (argSt (v29_0.enc v)) = F29_0 v := by kernel_rfl
theorem ok29_0 : FnOk Try.prog E 29 v29_0.enc F29_0 w29_0.enc :=
  fn_known (fn := Try.f29) (c := (Try.f29.body.getD .skip)) Try.func29 (by kernel_rfl) rfl envOk (oracle_ok k29_0) mixed v29_0 F29_0 w29_0 [] [] 4000 L29_0 (by kernel_rfl)
    (fun _ h => nomatch h) (fun v _ h => ⟨0, (e29_0 _ v).trans h⟩) (fun _ => by kernel_rfl) (fun _ => by kernel_rfl) (fun _ _ => by kernel_rfl)
/- (*chicane/wire.In).fail -/
abbrev A52_0 : Type := (Int × Int) × (Int × Int × Int × Int) × List Int
abbrev R52_0 : Type := (Int × Int × Int × Int) × List Int
def v52_0 : Pk G ((Int × Int) × (Int × Int × Int × Int) × List Int) := (pk (Sh.snd (Sh.cons (Sh.ptr 0 0) (Sh.cons (Sh.int .i64) (Sh.fst (Sh.cons (Sh.int .i64) Sh.nil))))) (Sh.hfix 0 77 (Sh.snd (Sh.cons (Sh.osl 1) (Sh.cons (Sh.int .i64) (Sh.cons (Sh.int .i64) (Sh.cons (Sh.int .i64) (Sh.fst (Sh.cons (Sh.int .i64) Sh.nil))))))) (Sh.fst (Sh.hrow 1 5 Sh.hnil))))
def w52_0 : Wk G ((Int × Int × Int × Int) × List Int) := (Wk.one [] (Pk.snd (pk Sh.nil (Sh.hfix 0 77 (Sh.snd (Sh.cons (Sh.osl 1) (Sh.cons (Sh.int .i64) (Sh.cons (Sh.int .i64) (Sh.cons (Sh.int .i64) (Sh.fst (Sh.cons (Sh.int .i64) Sh.nil))))))) (Sh.fst (Sh.hrow 1 5 Sh.hnil))))))
def F52_0 (v : (Int × Int) × (Int × Int × Int × Int) × List Int) : Option ((Int × Int × Int × Int) × List Int) :=
  bif (v.2.1.2.2.1 == (0 : Int)) then
    some ((v.2.1.1, (v.2.1.2.1, v.1)), v.2.2)
  else
    some (v.2)

noncomputable def k52_0 : List (Known Try.prog E) := []
noncomputable def L52_0 (n id : Nat) (st : St G) : Option ((Int × Int × Int × Int) × List Int) := none
set_option maxRecDepth 100000 in
theorem e52_0 (n : Nat) (v : (Int × Int) × (Int × Int × Int × Int) × List Int) : ev Try.prog E (oracle k52_0) Try.f52.ntmps (fun x => mem x []) (L52_0 n) (finA Try.prog E Try.f52.results.toList [(.own 1 5), (.ptr 0 0 77 [(.own 1 5), .keep, .keep, .keep, .keep])] w52_0.alts) 4000 [.code (Try.f52.body.getD .skip)] (argSt (v52_0.enc v)) = F52_0 v := by kernel_rfl
theorem ok52_0 : FnOk Try.prog E 52 v52_0.enc F52_0 w52_0.enc :=
  fn_known (fn := Try.f52) (c := (Try.f52.body.getD .skip)) Try.func52 (by kernel_rfl) rfl envOk (oracle_ok k52_0) mixed v52_0 F52_0 w52_0 [(.own 1 5), (.ptr 0 0 77 [(.own 1 5), .keep, .keep, .keep, .keep])] [] 4000 L52_0 (by kernel_rfl)
    (fun _ h => nomatch h) (fun v _ h => ⟨0, (e52_0 _ v).trans h⟩) (fun _ => by kernel_rfl) (fun _ => by kernel_rfl) (fun _ _ => by kernel_rfl)
/- (*chicane/wire.In).word -/
abbrev A51_0 : Type := Int × (Int × Int × Int × Int) × List Int
abbrev R51_0 : Type := ((Int × Int × Int × Int) × List Int) ⊕ (((Nat × Nat)) × (Int × Int × Int × Int) × List Int)
def v51_0 : Pk G (Int × (Int × Int × Int × Int) × List Int) := (pk (Sh.snd (Sh.cons (Sh.ptr 0 0) (Sh.fst (Sh.cons (Sh.int .i64) Sh.nil)))) (Sh.hfix 0 77 (Sh.snd (Sh.cons (Sh.osl 1) (Sh.cons (Sh.int .i64) (Sh.cons (Sh.int .i64) (Sh.cons (Sh.int .i64) (Sh.fst (Sh.cons (Sh.int .i64) Sh.nil))))))) (Sh.fst (Sh.hrow 1 5 Sh.hnil))))
def w51_0 : Wk G (((Int × Int × Int × Int) × List Int) ⊕ (((Nat × Nat)) × (Int × Int × Int × Int) × List Int)) := (Wk.alt (Wk.one [.keep] (Pk.snd (pk (Sh.snd (Sh.cons Sh.nilsl Sh.nil)) (Sh.hfix 0 77 (Sh.snd (Sh.cons (Sh.osl 1) (Sh.cons (Sh.int .i64) (Sh.cons (Sh.int .i64) (Sh.cons (Sh.int .i64) (Sh.fst (Sh.cons (Sh.int .i64) Sh.nil))))))) (Sh.fst (Sh.hrow 1 5 Sh.hnil)))))) (Wk.one [(.sub 1 1)] (pk (Sh.fst (Sh.cons (Sh.sub 1 1) Sh.nil)) (Sh.hfix 0 77 (Sh.snd (Sh.cons (Sh.osl 1) (Sh.cons (Sh.int .i64) (Sh.cons (Sh.int .i64) (Sh.cons (Sh.int .i64) (Sh.fst (Sh.cons (Sh.int .i64) Sh.nil))))))) (Sh.fst (Sh.hrow 1 5 Sh.hnil))))))
def F51_0 (v : Int × (Int × Int × Int × Int) × List Int) : Option (((Int × Int × Int × Int) × List Int) ⊕ (((Nat × Nat)) × (Int × Int × Int × Int) × List Int)) :=
  bif (v.2.1.2.2.1 != (0 : Int)) then
    some (.inl v.2)
  else
    let x288 : Int := (IntKind.wrap .i64 (((v.2.2).length : Int) - v.2.1.1))
    bif (decide (v.1 > x288)) then
      (F52_0 (((20 : Int), ((v.2.2).length : Int)), v.2)).bind fun r289 =>
      some (.inl r289)
    else
      let x290 : Int := (IntKind.wrap .i64 (v.2.1.1 + v.1))
      (chk (decide (x290 = x290))).bind fun _ =>
      (cutn v.2.1.1 x290 ((v.2.2).length : Int)).bind fun (x291 : Nat × Nat) =>
      some (.inr (x291, ((x290, (v.2.1.1, v.2.1.2.2)), v.2.2)))

noncomputable def k51_0 : List (Known Try.prog E) := [Known.of envOk [5, 1, 1] [(.ptr 0 0 77 [(.own 1 5), .keep, .keep, .keep, .keep]), .keep, .keep] v52_0 F52_0 w52_0 ok52_0]
noncomputable def L51_0 (n id : Nat) (st : St G) : Option (((Int × Int × Int × Int) × List Int) ⊕ (((Nat × Nat)) × (Int × Int × Int × Int) × List Int)) := none
set_option maxRecDepth 100000 in
theorem e51_0 (n : Nat) (v : Int × (Int × Int × Int × Int) × List Int) : ev Try.prog E (oracle k51_0) Try.f51.ntmps (fun x => mem x []) (L51_0 n) (finA Try.prog E Try.f51.results.toList [(.own 1 5), (.ptr 0 0 77 [(.own 1 5), .keep, .keep, .keep, .keep])] w51_0.alts) 4000 [.code (Try.f51.body.getD .skip)] (argSt (v51_0.enc v)) = F51_0 v := by kernel_rfl
theorem ok51_0 : FnOk Try.prog E 51 v51_0.enc F51_0 w51_0.enc :=
  fn_known (fn := Try.f51) (c := (Try.f51.body.getD .skip)) Try.func51 (by kernel_rfl) rfl envOk (oracle_ok k51_0) mixed v51_0 F51_0 w51_0 [(.own 1 5), (.ptr 0 0 77 [(.own 1 5), .keep, .keep, .keep, .keep])] [] 4000 L51_0 (by kernel_rfl)
    (fun _ h => nomatch h) (fun v _ h => ⟨0, (e51_0 _ v).trans h⟩) (fun _ => by kernel_rfl) (fun _ => by kernel_rfl) (fun _ r => by rcases r with r | r <;> kernel_rfl)
/- (*chicane/wire.In).Mark -/
abbrev A30_0 : Type := ByteArray × (Int × Int × Int × Int) × List Int
abbrev R30_0 : Type := (Int × Int × Int × Int) × List Int
def v30_0 : Pk G (ByteArray × (Int × Int × Int × Int) × List Int) := (pk (Sh.snd (Sh.cons (Sh.ptr 0 0) (Sh.fst (Sh.cons Sh.str Sh.nil)))) (Sh.hfix 0 77 (Sh.snd (Sh.cons (Sh.osl 1) (Sh.cons (Sh.int .i64) (Sh.cons (Sh.int .i64) (Sh.cons (Sh.int .i64) (Sh.fst (Sh.cons (Sh.int .i64) Sh.nil))))))) (Sh.fst (Sh.hrow 1 5 Sh.hnil))))
def w30_0 : Wk G ((Int × Int × Int × Int) × List Int) := (Wk.one [] (Pk.snd (pk Sh.nil (Sh.hfix 0 77 (Sh.snd (Sh.cons (Sh.osl 1) (Sh.cons (Sh.int .i64) (Sh.cons (Sh.int .i64) (Sh.cons (Sh.int .i64) (Sh.fst (Sh.cons (Sh.int .i64) Sh.nil))))))) (Sh.fst (Sh.hrow 1 5 Sh.hnil))))))
def F30_0 (v : ByteArray × (Int × Int × Int × Int) × List Int) : Option ((Int × Int × Int × Int) × List Int) :=
  (F51_0 ((4 : Int), v.2)).bind fun r312 =>
  match r312 with
  | .inl r313 =>
    some (r313)
  | .inr r314 =>
    (chk (decide (r314.1.2 ≠ 0))).bind fun _ =>
    (chk (decide (4 ≤ r314.1.2))).bind fun _ =>
    ((r314.2.2)[r314.1.1]?).bind fun (x315 : Int) =>
    ((r314.2.2)[r314.1.1 + 1]?).bind fun (x316 : Int) =>
    ((r314.2.2)[r314.1.1 + 1 + 1]?).bind fun (x317 : Int) =>
    ((r314.2.2)[r314.1.1 + 1 + 1 + 1]?).bind fun (x318 : Int) =>
    (F44_0 v.1).bind fun r319 =>
    let x320 : Bool := ((x315 == r319.1) && ((x316 == r319.2.1) && ((x317 == r319.2.2.1) && ((x318 == r319.2.2.2) && true))))
    bif (!x320) then
      (F52_0 (((21 : Int), r314.2.1.2.1), r314.2)).bind fun r321 =>
      some (r321)
    else
      some (r314.2)

noncomputable def k30_0 : List (Known Try.prog E) := [Known.of envOk [5, 1] [(.ptr 0 0 77 [(.own 1 5), .keep, .keep, .keep, .keep]), .keep] v51_0 F51_0 w51_0 ok51_0, Known.of envOk [3] [.keep] v44_0 F44_0 w44_0 ok44_0, Known.of envOk [5, 1, 1] [(.ptr 0 0 77 [(.own 1 5), .keep, .keep, .keep, .keep]), .keep, .keep] v52_0 F52_0 w52_0 ok52_0]
noncomputable def L30_0 (n id : Nat) (st : St G) : Option ((Int × Int × Int × Int) × List Int) := none
set_option maxRecDepth 100000 in
theorem e30_0 (n : Nat) (v : ByteArray × (Int × Int × Int × Int) × List Int) : ev Try.prog E (oracle k30_0) Try.f30.ntmps (fun x => mem x []) (L30_0 n) (finA Try.prog E Try.f30.results.toList [(.own 1 5), (.ptr 0 0 77 [(.own 1 5), .keep, .keep, .keep, .keep])] w30_0.alts) 4000 [.code (Try.f30.body.getD .skip)] (argSt (v30_0.enc v)) = F30_0 v := by kernel_rfl
theorem ok30_0 : FnOk Try.prog E 30 v30_0.enc F30_0 w30_0.enc :=
  fn_known (fn := Try.f30) (c := (Try.f30.body.getD .skip)) Try.func30 (by kernel_rfl) rfl envOk (oracle_ok k30_0) mixed v30_0 F30_0 w30_0 [(.own 1 5), (.ptr 0 0 77 [(.own 1 5), .keep, .keep, .keep, .keep])] [] 4000 L30_0 (by kernel_rfl)
    (fun _ h => nomatch h) (fun v _ h => ⟨0, (e30_0 _ v).trans h⟩) (fun _ => by kernel_rfl) (fun _ => by kernel_rfl) (fun _ _ => by kernel_rfl)
/- chicane/wire.from -/
abbrev A53_0 : Type := List Int
abbrev R53_0 : Type := Int
def v53_0 : Pk G (List Int) := (Pk.fst (pk (Sh.fst (Sh.cons (Sh.ros 5) Sh.nil)) Sh.hnil))
def w53_0 : Wk G Int := (Wk.one [.keep] (Pk.fst (pk (Sh.fst (Sh.cons (Sh.int .u64) Sh.nil)) Sh.hnil)))
def c53_0_3 : Pk G (Int × List Int × Int × Int) := (Pk.fst (pk (Sh.cons (Sh.int .u64) (Sh.cons (Sh.ros 5) (Sh.cons (Sh.int .i64) (Sh.fst (Sh.cons (Sh.int .i64) Sh.nil))))) Sh.hnil))
def B53_0_3 (K : ((Int × List Int × Int × Int) → Option Int)) (v : Int × List Int × Int × Int) : Option Int :=
  bif (decide (v.2.2.2 < v.2.2.1)) then
    (rdx v.2.1 v.2.2.2).bind fun (x340 : Int) =>
    let x341 : Int := (IntKind.wrap .u64 x340)
    let x342 : Int := (IntKind.wrap .i64 ((8 : Int) * v.2.2.2))
    (chk (decide (0 ≤ x342))).bind fun _ =>
    let x343 : Int := (IntKind.wrap .u64 (x341 * 2 ^ min (x342).toNat 64))
    let x344 : Int := (Go.bits .or .u64 v.1 x343)
    let x345 : Int := (IntKind.wrap .i64 (v.2.2.2 + (1 : Int)))
    K (x344, (v.2.1, (v.2.2.1, x345)))
  else
    some (v.1)

def E53_0 (K : ((Int × List Int × Int × Int) → Option Int)) (v : List Int) : Option Int :=
  K ((0 : Int), (v, (((v).length : Int), (0 : Int))))

def K53_0 : Nat → ((Int × List Int × Int × Int) → Option Int)
  | 0 => (fun _ => none)
  | n + 1 => (B53_0_3 (K53_0 n))
def fuel53_0 (v : List Int) : Nat := 1000
def F53_0 (v : List Int) : Option Int := E53_0 (K53_0 (fuel53_0 v)) v
noncomputable def k53_0 : List (Known Try.prog E) := []
def s53_0_3 : List (Nat × Pat) := [(3, .keep), (6, (.ros 5)), (7, .keep), (8, .keep)]
noncomputable def L53_0 (n id : Nat) (st : St G) : Option Int := match Nat.beq id 3 with | true => cutK Try.prog s53_0_3 [] c53_0_3.dec (K53_0 n) st | false => none
set_option maxRecDepth 100000 in
theorem e53_0 (n : Nat) (v : List Int) : ev Try.prog E (oracle k53_0) Try.f53.ntmps (fun x => mem x [3]) (L53_0 n) (finA Try.prog E Try.f53.results.toList [] w53_0.alts) 4000 [.code (Try.f53.body.getD .skip)] (argSt (v53_0.enc v)) = E53_0 (K53_0 n) v := by kernel_rfl
set_option maxRecDepth 100000 in
theorem b53_0_3 (n : Nat) (v : Int × List Int × Int × Int) : evCut Try.prog E (oracle k53_0) Try.f53.ntmps (fun x => mem x [3]) (L53_0 n) (finA Try.prog E Try.f53.results.toList [] w53_0.alts) 4000 (todoAt (Try.f53.body.getD .skip) 3) (cutSt s53_0_3 (c53_0_3.enc v)) = B53_0_3 (K53_0 n) v := by kernel_rfl
theorem ok53_0 : FnOk Try.prog E 53 v53_0.enc F53_0 w53_0.enc :=
  fn_known (fn := Try.f53) (c := (Try.f53.body.getD .skip)) Try.func53 (by kernel_rfl) rfl envOk (oracle_ok k53_0) mixed v53_0 F53_0 w53_0 [] [3] 4000 L53_0 (by kernel_rfl)
    (List.forall_mem_cons.2 ⟨⟨_, s53_0_3, c53_0_3.dec, c53_0_3.enc, fun n => (K53_0 n), c53_0_3.ok, fun _ _ => rfl, fun _ => rfl, fun n v _ h => (b53_0_3 n v).trans h⟩, fun _ h => (nomatch h)⟩) (fun v _ h => ⟨fuel53_0 v, (e53_0 _ v).trans h⟩) (fun _ => by kernel_rfl) (fun _ => by kernel_rfl) (fun _ _ => by kernel_rfl)
/- (*chicane/wire.In).Num -/
abbrev A31_0 : Type := (Int × Int × Int × Int) × List Int
abbrev R31_0 : Type := Int × (Int × Int × Int × Int) × List Int
def v31_0 : Pk G ((Int × Int × Int × Int) × List Int) := (Pk.snd (pk (Sh.snd (Sh.cons (Sh.ptr 0 0) Sh.nil)) (Sh.hfix 0 77 (Sh.snd (Sh.cons (Sh.osl 1) (Sh.cons (Sh.int .i64) (Sh.cons (Sh.int .i64) (Sh.cons (Sh.int .i64) (Sh.fst (Sh.cons (Sh.int .i64) Sh.nil))))))) (Sh.fst (Sh.hrow 1 5 Sh.hnil)))))
def w31_0 : Wk G (Int × (Int × Int × Int × Int) × List Int) := (Wk.one [.keep] (pk (Sh.fst (Sh.cons (Sh.int .i64) Sh.nil)) (Sh.hfix 0 77 (Sh.snd (Sh.cons (Sh.osl 1) (Sh.cons (Sh.int .i64) (Sh.cons (Sh.int .i64) (Sh.cons (Sh.int .i64) (Sh.fst (Sh.cons (Sh.int .i64) Sh.nil))))))) (Sh.fst (Sh.hrow 1 5 Sh.hnil)))))
def F31_0 (v : (Int × Int × Int × Int) × List Int) : Option (Int × (Int × Int × Int × Int) × List Int) :=
  (F51_0 ((8 : Int), v)).bind fun r353 =>
  match r353 with
  | .inl r354 =>
    some ((0 : Int), r354)
  | .inr r355 =>
    (chk (decide (r355.1.2 ≠ 0))).bind fun _ =>
    (F53_0 (((r355.2.2).drop r355.1.1).take r355.1.2)).bind fun r356 =>
    let x357 : Int := (IntKind.wrap .i64 r356)
    some (x357, r355.2)

noncomputable def k31_0 : List (Known Try.prog E) := [Known.of envOk [5, 1] [(.ptr 0 0 77 [(.own 1 5), .keep, .keep, .keep, .keep]), .keep] v51_0 F51_0 w51_0 ok51_0, Known.of envOk [7] [(.ros 5)] v53_0 F53_0 w53_0 ok53_0]
noncomputable def L31_0 (n id : Nat) (st : St G) : Option (Int × (Int × Int × Int × Int) × List Int) := none
set_option maxRecDepth 100000 in
theorem e31_0 (n : Nat) (v : (Int × Int × Int × Int) × List Int) : ev Try.prog E (oracle k31_0) Try.f31.ntmps (fun x => mem x []) (L31_0 n) (finA Try.prog E Try.f31.results.toList [(.own 1 5), (.ptr 0 0 77 [(.own 1 5), .keep, .keep, .keep, .keep])] w31_0.alts) 4000 [.code (Try.f31.body.getD .skip)] (argSt (v31_0.enc v)) = F31_0 v := by kernel_rfl
theorem ok31_0 : FnOk Try.prog E 31 v31_0.enc F31_0 w31_0.enc :=
  fn_known (fn := Try.f31) (c := (Try.f31.body.getD .skip)) Try.func31 (by kernel_rfl) rfl envOk (oracle_ok k31_0) mixed v31_0 F31_0 w31_0 [(.own 1 5), (.ptr 0 0 77 [(.own 1 5), .keep, .keep, .keep, .keep])] [] 4000 L31_0 (by kernel_rfl)
    (fun _ h => nomatch h) (fun v _ h => ⟨0, (e31_0 _ v).trans h⟩) (fun _ => by kernel_rfl) (fun _ => by kernel_rfl) (fun _ _ => by kernel_rfl)
/- (*chicane/wire.In).Refuse -/
abbrev A32_0 : Type := Int × (Int × Int × Int × Int) × List Int
abbrev R32_0 : Type := (Int × Int × Int × Int) × List Int
def v32_0 : Pk G (Int × (Int × Int × Int × Int) × List Int) := (pk (Sh.snd (Sh.cons (Sh.ptr 0 0) (Sh.fst (Sh.cons (Sh.int .i64) Sh.nil)))) (Sh.hfix 0 77 (Sh.snd (Sh.cons (Sh.osl 1) (Sh.cons (Sh.int .i64) (Sh.cons (Sh.int .i64) (Sh.cons (Sh.int .i64) (Sh.fst (Sh.cons (Sh.int .i64) Sh.nil))))))) (Sh.fst (Sh.hrow 1 5 Sh.hnil))))
def w32_0 : Wk G ((Int × Int × Int × Int) × List Int) := (Wk.one [] (Pk.snd (pk Sh.nil (Sh.hfix 0 77 (Sh.snd (Sh.cons (Sh.osl 1) (Sh.cons (Sh.int .i64) (Sh.cons (Sh.int .i64) (Sh.cons (Sh.int .i64) (Sh.fst (Sh.cons (Sh.int .i64) Sh.nil))))))) (Sh.fst (Sh.hrow 1 5 Sh.hnil))))))
def F32_0 (v : Int × (Int × Int × Int × Int) × List Int) : Option ((Int × Int × Int × Int) × List Int) :=
  bif (v.1 == (0 : Int)) then
    (F52_0 (((1 : Int), v.2.1.2.1), v.2)).bind fun r363 =>
    some (r363)
  else
    (F52_0 ((v.1, v.2.1.2.1), v.2)).bind fun r364 =>
    some (r364)

noncomputable def k32_0 : List (Known Try.prog E) := [Known.of envOk [5, 1, 1] [(.ptr 0 0 77 [(.own 1 5), .keep, .keep, .keep, .keep]), .keep, .keep] v52_0 F52_0 w52_0 ok52_0]
noncomputable def L32_0 (n id : Nat) (st : St G) : Option ((Int × Int × Int × Int) × List Int) := none
set_option maxRecDepth 100000 in
theorem e32_0 (n : Nat) (v : Int × (Int × Int × Int × Int) × List Int) : ev Try.prog E (oracle k32_0) Try.f32.ntmps (fun x => mem x []) (L32_0 n) (finA Try.prog E Try.f32.results.toList [(.own 1 5), (.ptr 0 0 77 [(.own 1 5), .keep, .keep, .keep, .keep])] w32_0.alts) 4000 [.code (Try.f32.body.getD .skip)] (argSt (v32_0.enc v)) = F32_0 v := by kernel_rfl
theorem ok32_0 : FnOk Try.prog E 32 v32_0.enc F32_0 w32_0.enc :=
  fn_known (fn := Try.f32) (c := (Try.f32.body.getD .skip)) Try.func32 (by kernel_rfl) rfl envOk (oracle_ok k32_0) mixed v32_0 F32_0 w32_0 [(.own 1 5), (.ptr 0 0 77 [(.own 1 5), .keep, .keep, .keep, .keep])] [] 4000 L32_0 (by kernel_rfl)
    (fun _ h => nomatch h) (fun v _ h => ⟨0, (e32_0 _ v).trans h⟩) (fun _ => by kernel_rfl) (fun _ => by kernel_rfl) (fun _ _ => by kernel_rfl)
/- (*chicane/wire.In).Good -/
abbrev A33_0 : Type := (Int × Int × Int × Int) × List Int
abbrev R33_0 : Type := Bool × (Int × Int × Int × Int) × List Int
def v33_0 : Pk G ((Int × Int × Int × Int) × List Int) := (Pk.snd (pk (Sh.snd (Sh.cons (Sh.ptr 0 0) Sh.nil)) (Sh.hfix 0 77 (Sh.snd (Sh.cons (Sh.osl 1) (Sh.cons (Sh.int .i64) (Sh.cons (Sh.int .i64) (Sh.cons (Sh.int .i64) (Sh.fst (Sh.cons (Sh.int .i64) Sh.nil))))))) (Sh.fst (Sh.hrow 1 5 Sh.hnil)))))
def w33_0 : Wk G (Bool × (Int × Int × Int × Int) × List Int) := (Wk.one [.keep] (pk (Sh.fst (Sh.cons Sh.bool Sh.nil)) (Sh.hfix 0 77 (Sh.snd (Sh.cons (Sh.osl 1) (Sh.cons (Sh.int .i64) (Sh.cons (Sh.int .i64) (Sh.cons (Sh.int .i64) (Sh.fst (Sh.cons (Sh.int .i64) Sh.nil))))))) (Sh.fst (Sh.hrow 1 5 Sh.hnil)))))
def F33_0 (v : (Int × Int × Int × Int) × List Int) : Option (Bool × (Int × Int × Int × Int) × List Int) :=
  some ((v.1.2.2.1 == (0 : Int)), v)

noncomputable def k33_0 : List (Known Try.prog E) := []
noncomputable def L33_0 (n id : Nat) (st : St G) : Option (Bool × (Int × Int × Int × Int) × List Int) := none
set_option maxRecDepth 100000 in
theorem e33_0 (n : Nat) (v : (Int × Int × Int × Int) × List Int) : ev Try.prog E (oracle k33_0) Try.f33.ntmps (fun x => mem x []) (L33_0 n) (finA Try.prog E Try.f33.results.toList [(.own 1 5), (.ptr 0 0 77 [(.own 1 5), .keep, .keep, .keep, .keep])] w33_0.alts) 4000 [.code (Try.f33.body.getD .skip)] (argSt (v33_0.enc v)) = F33_0 v := by kernel_rfl
theorem ok33_0 : FnOk Try.prog E 33 v33_0.enc F33_0 w33_0.enc :=
  fn_known (fn := Try.f33) (c := (Try.f33.body.getD .skip)) Try.func33 (by kernel_rfl) rfl envOk (oracle_ok k33_0) mixed v33_0 F33_0 w33_0 [(.own 1 5), (.ptr 0 0 77 [(.own 1 5), .keep, .keep, .keep, .keep])] [] 4000 L33_0 (by kernel_rfl)
    (fun _ h => nomatch h) (fun v _ h => ⟨0, (e33_0 _ v).trans h⟩) (fun _ => by kernel_rfl) (fun _ => by kernel_rfl) (fun _ _ => by kernel_rfl)
/- (*chicane/wire.In).Count -/
abbrev A54_0 : Type := (Int × Int) × (Int × Int × Int × Int) × List Int
abbrev R54_0 : Type := Int × (Int × Int × Int × Int) × List Int
def v54_0 : Pk G ((Int × Int) × (Int × Int × Int × Int) × List Int) := (pk (Sh.snd (Sh.cons (Sh.ptr 0 0) (Sh.cons (Sh.int .i64) (Sh.fst (Sh.cons (Sh.int .i64) Sh.nil))))) (Sh.hfix 0 77 (Sh.snd (Sh.cons (Sh.osl 1) (Sh.cons (Sh.int .i64) (Sh.cons (Sh.int .i64) (Sh.cons (Sh.int .i64) (Sh.fst (Sh.cons (Sh.int .i64) Sh.nil))))))) (Sh.fst (Sh.hrow 1 5 Sh.hnil))))
def w54_0 : Wk G (Int × (Int × Int × Int × Int) × List Int) := (Wk.one [.keep] (pk (Sh.fst (Sh.cons (Sh.int .i64) Sh.nil)) (Sh.hfix 0 77 (Sh.snd (Sh.cons (Sh.osl 1) (Sh.cons (Sh.int .i64) (Sh.cons (Sh.int .i64) (Sh.cons (Sh.int .i64) (Sh.fst (Sh.cons (Sh.int .i64) Sh.nil))))))) (Sh.fst (Sh.hrow 1 5 Sh.hnil)))))
def F54_0 (v : (Int × Int) × (Int × Int × Int × Int) × List Int) : Option (Int × (Int × Int × Int × Int) × List Int) :=
  (F51_0 ((2 : Int), v.2)).bind fun r392 =>
  match r392 with
  | .inl r393 =>
    some ((0 : Int), r393)
  | .inr r394 =>
    (chk (decide (r394.1.2 ≠ 0))).bind fun _ =>
    (F53_0 (((r394.2.2).drop r394.1.1).take r394.1.2)).bind fun r395 =>
    let x396 : Int := (IntKind.wrap .i64 r395)
    bif (decide (x396 < v.1.1)) then
      (F52_0 (((22 : Int), r394.2.1.2.1), r394.2)).bind fun r397 =>
      some ((0 : Int), r397)
    else
      bif (decide (x396 > v.1.2)) then
        (F52_0 (((22 : Int), r394.2.1.2.1), r394.2)).bind fun r398 =>
        some ((0 : Int), r398)
      else
        some (x396, r394.2)

noncomputable def k54_0 : List (Known Try.prog E) := [Known.of envOk [5, 1] [(.ptr 0 0 77 [(.own 1 5), .keep, .keep, .keep, .keep]), .keep] v51_0 F51_0 w51_0 ok51_0, Known.of envOk [7] [(.ros 5)] v53_0 F53_0 w53_0 ok53_0, Known.of envOk [5, 1, 1] [(.ptr 0 0 77 [(.own 1 5), .keep, .keep, .keep, .keep]), .keep, .keep] v52_0 F52_0 w52_0 ok52_0]
noncomputable def L54_0 (n id : Nat) (st : St G) : Option (Int × (Int × Int × Int × Int) × List Int) := none
set_option maxRecDepth 100000 in
theorem e54_0 (n : Nat) (v : (Int × Int) × (Int × Int × Int × Int) × List Int) : ev Try.prog E (oracle k54_0) Try.f54.ntmps (fun x => mem x []) (L54_0 n) (finA Try.prog E Try.f54.results.toList [(.own 1 5), (.ptr 0 0 77 [(.own 1 5), .keep, .keep, .keep, .keep])] w54_0.alts) 4000 [.code (Try.f54.body.getD .skip)] (argSt (v54_0.enc v)) = F54_0 v := by kernel_rfl
theorem ok54_0 : FnOk Try.prog E 54 v54_0.enc F54_0 w54_0.enc :=
  fn_known (fn := Try.f54) (c := (Try.f54.body.getD .skip)) Try.func54 (by kernel_rfl) rfl envOk (oracle_ok k54_0) mixed v54_0 F54_0 w54_0 [(.own 1 5), (.ptr 0 0 77 [(.own 1 5), .keep, .keep, .keep, .keep])] [] 4000 L54_0 (by kernel_rfl)
    (fun _ h => nomatch h) (fun v _ h => ⟨0, (e54_0 _ v).trans h⟩) (fun _ => by kernel_rfl) (fun _ => by kernel_rfl) (fun _ _ => by kernel_rfl)
/- (*chicane/wire.In).Flag -/
abbrev A55_0 : Type := (Int × Int × Int × Int) × List Int
abbrev R55_0 : Type := Bool × (Int × Int × Int × Int) × List Int
def v55_0 : Pk G ((Int × Int × Int × Int) × List Int) := (Pk.snd (pk (Sh.snd (Sh.cons (Sh.ptr 0 0) Sh.nil)) (Sh.hfix 0 77 (Sh.snd (Sh.cons (Sh.osl 1) (Sh.cons (Sh.int .i64) (Sh.cons (Sh.int .i64) (Sh.cons (Sh.int .i64) (Sh.fst (Sh.cons (Sh.int .i64) Sh.nil))))))) (Sh.fst (Sh.hrow 1 5 Sh.hnil)))))
def w55_0 : Wk G (Bool × (Int × Int × Int × Int) × List Int) := (Wk.one [.keep] (pk (Sh.fst (Sh.cons Sh.bool Sh.nil)) (Sh.hfix 0 77 (Sh.snd (Sh.cons (Sh.osl 1) (Sh.cons (Sh.int .i64) (Sh.cons (Sh.int .i64) (Sh.cons (Sh.int .i64) (Sh.fst (Sh.cons (Sh.int .i64) Sh.nil))))))) (Sh.fst (Sh.hrow 1 5 Sh.hnil)))))
def F55_0 (v : (Int × Int × Int × Int) × List Int) : Option (Bool × (Int × Int × Int × Int) × List Int) :=
  (F51_0 ((1 : Int), v)).bind fun r422 =>
  match r422 with
  | .inl r423 =>
    some (false, r423)
  | .inr r424 =>
    (chk (decide (r424.1.2 ≠ 0))).bind fun _ =>
    (idx (0 : Int) r424.1.2).bind fun (x425 : Nat) =>
    ((r424.2.2)[(r424.1.1 + x425)]?).bind fun (x426 : Int) =>
    bif (decide (x426 > (1 : Int))) then
      (F52_0 (((24 : Int), r424.2.1.2.1), r424.2)).bind fun r427 =>
      some (false, r427)
    else
      (chk (decide (r424.1.2 ≠ 0))).bind fun _ =>
      (idx (0 : Int) r424.1.2).bind fun (x428 : Nat) =>
      ((r424.2.2)[(r424.1.1 + x428)]?).bind fun (x429 : Int) =>
      some ((x429 == (1 : Int)), r424.2)

noncomputable def k55_0 : List (Known Try.prog E) := [Known.of envOk [5, 1] [(.ptr 0 0 77 [(.own 1 5), .keep, .keep, .keep, .keep]), .keep] v51_0 F51_0 w51_0 ok51_0, Known.of envOk [5, 1, 1] [(.ptr 0 0 77 [(.own 1 5), .keep, .keep, .keep, .keep]), .keep, .keep] v52_0 F52_0 w52_0 ok52_0]
noncomputable def L55_0 (n id : Nat) (st : St G) : Option (Bool × (Int × Int × Int × Int) × List Int) := none
set_option maxRecDepth 100000 in
theorem e55_0 (n : Nat) (v : (Int × Int × Int × Int) × List Int) : ev Try.prog E (oracle k55_0) Try.f55.ntmps (fun x => mem x []) (L55_0 n) (finA Try.prog E Try.f55.results.toList [(.own 1 5), (.ptr 0 0 77 [(.own 1 5), .keep, .keep, .keep, .keep])] w55_0.alts) 4000 [.code (Try.f55.body.getD .skip)] (argSt (v55_0.enc v)) = F55_0 v := by kernel_rfl
theorem ok55_0 : FnOk Try.prog E 55 v55_0.enc F55_0 w55_0.enc :=
  fn_known (fn := Try.f55) (c := (Try.f55.body.getD .skip)) Try.func55 (by kernel_rfl) rfl envOk (oracle_ok k55_0) mixed v55_0 F55_0 w55_0 [(.own 1 5), (.ptr 0 0 77 [(.own 1 5), .keep, .keep, .keep, .keep])] [] 4000 L55_0 (by kernel_rfl)
    (fun _ h => nomatch h) (fun v _ h => ⟨0, (e55_0 _ v).trans h⟩) (fun _ => by kernel_rfl) (fun _ => by kernel_rfl) (fun _ _ => by kernel_rfl)
/- chicane/control.take -/
abbrev A34_0 : Type := (Int × Int × Int × Int) × List Int
abbrev R34_0 : Type := (Int × Int × Int × Int × Int × Bool × Bool) × (Int × Int × Int × Int) × List Int
def v34_0 : Pk G ((Int × Int × Int × Int) × List Int) := (Pk.snd (pk (Sh.snd (Sh.cons (Sh.ptr 0 0) Sh.nil)) (Sh.hfix 0 77 (Sh.snd (Sh.cons (Sh.osl 1) (Sh.cons (Sh.int .i64) (Sh.cons (Sh.int .i64) (Sh.cons (Sh.int .i64) (Sh.fst (Sh.cons (Sh.int .i64) Sh.nil))))))) (Sh.fst (Sh.hrow 1 5 Sh.hnil)))))
def w34_0 : Wk G ((Int × Int × Int × Int × Int × Bool × Bool) × (Int × Int × Int × Int) × List Int) := (Wk.one [(.agg [.keep, .keep, .keep, .keep, .keep, .keep, .keep])] (pk (Sh.fst (Sh.cons (Sh.agg (Sh.cons (Sh.int .i64) (Sh.cons (Sh.int .i64) (Sh.cons (Sh.int .i64) (Sh.cons (Sh.int .i64) (Sh.cons (Sh.int .i64) (Sh.cons Sh.bool (Sh.fst (Sh.cons Sh.bool Sh.nil))))))))) Sh.nil)) (Sh.hfix 0 77 (Sh.snd (Sh.cons (Sh.osl 1) (Sh.cons (Sh.int .i64) (Sh.cons (Sh.int .i64) (Sh.cons (Sh.int .i64) (Sh.fst (Sh.cons (Sh.int .i64) Sh.nil))))))) (Sh.fst (Sh.hrow 1 5 Sh.hnil)))))
def F34_0 (v : (Int × Int × Int × Int) × List Int) : Option ((Int × Int × Int × Int × Int × Bool × Bool) × (Int × Int × Int × Int) × List Int) :=
  (F54_0 (((0 : Int), (255 : Int)), v)).bind fun r441 =>
  (F54_0 (((0 : Int), (255 : Int)), r441.2)).bind fun r442 =>
  (F54_0 (((0 : Int), (255 : Int)), r442.2)).bind fun r443 =>
  (F54_0 (((0 : Int), (254 : Int)), r443.2)).bind fun r444 =>
  let x445 : Int := (IntKind.wrap .i64 (r444.1 - (127 : Int)))
  (F54_0 (((0 : Int), (9 : Int)), r444.2)).bind fun r446 =>
  let x447 : Int := (IntKind.wrap .i64 (r446.1 - (1 : Int)))
  (F55_0 r446.2).bind fun r448 =>
  (F55_0 r448.2).bind fun r449 =>
  some ((r441.1, (r442.1, (r443.1, (x445, (x447, (r448.1, r449.1)))))), r449.2)

noncomputable def k34_0 : List (Known Try.prog E) := [Known.of envOk [5, 1, 1] [(.ptr 0 0 77 [(.own 1 5), .keep, .keep, .keep, .keep]), .keep, .keep] v54_0 F54_0 w54_0 ok54_0, Known.of envOk [5] [(.ptr 0 0 77 [(.own 1 5), .keep, .keep, .keep, .keep])] v55_0 F55_0 w55_0 ok55_0]
noncomputable def L34_0 (n id : Nat) (st : St G) : Option ((Int × Int × Int × Int × Int × Bool × Bool) × (Int × Int × Int × Int) × List Int) := none
set_option maxRecDepth 100000 in
theorem e34_0 (n : Nat) (v : (Int × Int × Int × Int) × List Int) : ev Try.prog E (oracle k34_0) Try.f34.ntmps (fun x => mem x []) (L34_0 n) (finA Try.prog E Try.f34.results.toList [(.own 1 5), (.ptr 0 0 77 [(.own 1 5), .keep, .keep, .keep, .keep])] w34_0.alts) 4000 [.code (Try.f34.body.getD .skip)] (argSt (v34_0.enc v)) = F34_0 v := by kernel_rfl
theorem ok34_0 : FnOk Try.prog E 34 v34_0.enc F34_0 w34_0.enc :=
  fn_known (fn := Try.f34) (c := (Try.f34.body.getD .skip)) Try.func34 (by kernel_rfl) rfl envOk (oracle_ok k34_0) mixed v34_0 F34_0 w34_0 [(.own 1 5), (.ptr 0 0 77 [(.own 1 5), .keep, .keep, .keep, .keep])] [] 4000 L34_0 (by kernel_rfl)
    (fun _ h => nomatch h) (fun v _ h => ⟨0, (e34_0 _ v).trans h⟩) (fun _ => by kernel_rfl) (fun _ => by kernel_rfl) (fun _ _ => by kernel_rfl)
/- (*chicane/wire.In).End -/
abbrev A35_0 : Type := (Int × Int × Int × Int) × List Int
abbrev R35_0 : Type := (Int × Int) × (Int × Int × Int × Int) × List Int
def v35_0 : Pk G ((Int × Int × Int × Int) × List Int) := (Pk.snd (pk (Sh.snd (Sh.cons (Sh.ptr 0 0) Sh.nil)) (Sh.hfix 0 77 (Sh.snd (Sh.cons (Sh.osl 1) (Sh.cons (Sh.int .i64) (Sh.cons (Sh.int .i64) (Sh.cons (Sh.int .i64) (Sh.fst (Sh.cons (Sh.int .i64) Sh.nil))))))) (Sh.fst (Sh.hrow 1 5 Sh.hnil)))))
def w35_0 : Wk G ((Int × Int) × (Int × Int × Int × Int) × List Int) := (Wk.one [.keep, .keep] (pk (Sh.cons (Sh.int .i64) (Sh.fst (Sh.cons (Sh.int .i64) Sh.nil))) (Sh.hfix 0 77 (Sh.snd (Sh.cons (Sh.osl 1) (Sh.cons (Sh.int .i64) (Sh.cons (Sh.int .i64) (Sh.cons (Sh.int .i64) (Sh.fst (Sh.cons (Sh.int .i64) Sh.nil))))))) (Sh.fst (Sh.hrow 1 5 Sh.hnil)))))
def F35_0 (v : (Int × Int × Int × Int) × List Int) : Option ((Int × Int) × (Int × Int × Int × Int) × List Int) :=
  bif (decide (v.1.1 < ((v.2).length : Int))) then
    (F52_0 (((23 : Int), v.1.1), v)).bind fun r454 =>
    some (r454.1.2.2, r454)
  else
    some (v.1.2.2, v)

noncomputable def k35_0 : List (Known Try.prog E) := [Known.of envOk [5, 1, 1] [(.ptr 0 0 77 [(.own 1 5), .keep, .keep, .keep, .keep]), .keep, .keep] v52_0 F52_0 w52_0 ok52_0]
noncomputable def L35_0 (n id : Nat) (st : St G) : Option ((Int × Int) × (Int × Int × Int × Int) × List Int) := none
set_option maxRecDepth 100000 in
theorem e35_0 (n : Nat) (v : (Int × Int × Int × Int) × List Int) : ev Try.prog E (oracle k35_0) Try.f35.ntmps (fun x => mem x []) (L35_0 n) (finA Try.prog E Try.f35.results.toList [(.own 1 5), (.ptr 0 0 77 [(.own 1 5), .keep, .keep, .keep, .keep])] w35_0.alts) 4000 [.code (Try.f35.body.getD .skip)] (argSt (v35_0.enc v)) = F35_0 v := by kernel_rfl
theorem ok35_0 : FnOk Try.prog E 35 v35_0.enc F35_0 w35_0.enc :=
  fn_known (fn := Try.f35) (c := (Try.f35.body.getD .skip)) Try.func35 (by kernel_rfl) rfl envOk (oracle_ok k35_0) mixed v35_0 F35_0 w35_0 [(.own 1 5), (.ptr 0 0 77 [(.own 1 5), .keep, .keep, .keep, .keep])] [] 4000 L35_0 (by kernel_rfl)
    (fun _ h => nomatch h) (fun v _ h => ⟨0, (e35_0 _ v).trans h⟩) (fun _ => by kernel_rfl) (fun _ => by kernel_rfl) (fun _ _ => by kernel_rfl)
/- chicane/control.Decode -/
abbrev A13_0 : Type := List Int
abbrev R13_0 : Type := (Int × Int) × List (Int × Int × Int × Int × Int × Bool × Bool)
def v13_0 : Pk G (List Int) := (Pk.fst (pk (Sh.fst (Sh.cons (Sh.ros 5) Sh.nil)) Sh.hnil))
def w13_0 : Wk G ((Int × Int) × List (Int × Int × Int × Int × Int × Bool × Bool)) := (Wk.one [(.own 0 29), .keep, .keep] (pk (Sh.snd (Sh.cons (Sh.osl 0) (Sh.cons (Sh.int .i64) (Sh.fst (Sh.cons (Sh.int .i64) Sh.nil))))) (Sh.fst (Sh.hrow 0 29 Sh.hnil))))
def c13_0_9 : Pk G (Int × (List (Int × Int × Int × Int × Int × Bool × Bool)) × (Int × Int × Int × Int) × List Int) := (pk (Sh.snd (Sh.cons (Sh.ptr 0 0) (Sh.fst (Sh.cons (Sh.int .i64) (Sh.snd (Sh.cons (Sh.osl 2) Sh.nil)))))) (Sh.hrow 2 29 (Sh.hfix 0 77 (Sh.snd (Sh.cons (Sh.osl 1) (Sh.cons (Sh.int .i64) (Sh.cons (Sh.int .i64) (Sh.cons (Sh.int .i64) (Sh.fst (Sh.cons (Sh.int .i64) Sh.nil))))))) (Sh.fst (Sh.hrow 1 5 Sh.hnil)))))
def B13_0_9 (K : ((Int × (List (Int × Int × Int × Int × Int × Bool × Bool)) × (Int × Int × Int × Int) × List Int) → Option ((Int × Int) × List (Int × Int × Int × Int × Int × Bool × Bool)))) (v : Int × (List (Int × Int × Int × Int × Int × Bool × Bool)) × (Int × Int × Int × Int) × List Int) : Option ((Int × Int) × List (Int × Int × Int × Int × Int × Bool × Bool)) :=
  bif (decide (((v.2.1).length : Int) < v.1)) then
    (F33_0 v.2.2).bind fun r491 =>
    bif r491.1 then
      (F34_0 r491.2).bind fun r492 =>
      (chk (decide (((v.2.1).length + (([r492.1] : List (Int × Int × Int × Int × Int × Bool × Bool))).length) * 48 ≤ 140737488355328))).bind fun _ =>
      let x493 : List (Int × Int × Int × Int × Int × Bool × Bool) := (v.2.1 ++ ([r492.1] : List (Int × Int × Int × Int × Int × Bool × Bool)))
      K (v.1, (x493, r492.2))
    else
      (F35_0 r491.2).bind fun r494 =>
      bif (r494.1.1 != (0 : Int)) then
        some (r494.1, ([] : List (Int × Int × Int × Int × Int × Bool × Bool)))
      else
        some (((0 : Int), (0 : Int)), v.2.1)
  else
    (F35_0 v.2.2).bind fun r495 =>
    bif (r495.1.1 != (0 : Int)) then
      some (r495.1, ([] : List (Int × Int × Int × Int × Int × Bool × Bool)))
    else
      some (((0 : Int), (0 : Int)), v.2.1)

def E13_0 (K : ((Int × (List (Int × Int × Int × Int × Int × Bool × Bool)) × (Int × Int × Int × Int) × List Int) → Option ((Int × Int) × List (Int × Int × Int × Int × Int × Bool × Bool)))) (v : List Int) : Option ((Int × Int) × List (Int × Int × Int × Int × Int × Bool × Bool)) :=
  (F29_0 v).bind fun r477 =>
  (F30_0 (sc0, r477)).bind fun r478 =>
  (F31_0 r478).bind fun r479 =>
  bif (decide (r479.1 < (0 : Int))) then
    (F32_0 ((22 : Int), r479.2)).bind fun r480 =>
    (F33_0 r480).bind fun r481 =>
    bif r481.1 then
      let x482 : Int := (IntKind.wrap .i64 (Int.tdiv ((v).length : Int) (12 : Int)))
      let x483 : Int := (if x482 < r479.1 then x482 else r479.1)
      (chk (decide (0 ≤ (0 : Int) ∧ (0 : Int) ≤ x483 ∧ x483 * 48 ≤ 140737488355328 ∧ x483 ≤ 9223372036854775807))).bind fun _ =>
      K (r479.1, ((List.replicate ((0 : Int)).toNat (((0 : Int), ((0 : Int), ((0 : Int), ((0 : Int), ((0 : Int), (false, false)))))) : Int × Int × Int × Int × Int × Bool × Bool)), r481.2))
    else
      K (r479.1, (([] : List (Int × Int × Int × Int × Int × Bool × Bool)), r481.2))
  else
    bif (decide (r479.1 > (16777216 : Int))) then
      (F32_0 ((22 : Int), r479.2)).bind fun r484 =>
      (F33_0 r484).bind fun r485 =>
      bif r485.1 then
        let x486 : Int := (IntKind.wrap .i64 (Int.tdiv ((v).length : Int) (12 : Int)))
        let x487 : Int := (if x486 < r479.1 then x486 else r479.1)
        (chk (decide (0 ≤ (0 : Int) ∧ (0 : Int) ≤ x487 ∧ x487 * 48 ≤ 140737488355328 ∧ x487 ≤ 9223372036854775807))).bind fun _ =>
        K (r479.1, ((List.replicate ((0 : Int)).toNat (((0 : Int), ((0 : Int), ((0 : Int), ((0 : Int), ((0 : Int), (false, false)))))) : Int × Int × Int × Int × Int × Bool × Bool)), r485.2))
      else
        K (r479.1, (([] : List (Int × Int × Int × Int × Int × Bool × Bool)), r485.2))
    else
      (F33_0 r479.2).bind fun r488 =>
      bif r488.1 then
        let x489 : Int := (IntKind.wrap .i64 (Int.tdiv ((v).length : Int) (12 : Int)))
        let x490 : Int := (if x489 < r479.1 then x489 else r479.1)
        (chk (decide (0 ≤ (0 : Int) ∧ (0 : Int) ≤ x490 ∧ x490 * 48 ≤ 140737488355328 ∧ x490 ≤ 9223372036854775807))).bind fun _ =>
        K (r479.1, ((List.replicate ((0 : Int)).toNat (((0 : Int), ((0 : Int), ((0 : Int), ((0 : Int), ((0 : Int), (false, false)))))) : Int × Int × Int × Int × Int × Bool × Bool)), r488.2))
      else
        K (r479.1, (([] : List (Int × Int × Int × Int × Int × Bool × Bool)), r488.2))

def K13_0 : Nat → ((Int × (List (Int × Int × Int × Int × Int × Bool × Bool)) × (Int × Int × Int × Int) × List Int) → Option ((Int × Int) × List (Int × Int × Int × Int × Int × Bool × Bool)))
  | 0 => (fun _ => none)
  | n + 1 => (B13_0_9 (K13_0 n))
def fuel13_0 (v : List Int) : Nat := 1000
def F13_0 (v : List Int) : Option ((Int × Int) × List (Int × Int × Int × Int × Int × Bool × Bool)) := E13_0 (K13_0 (fuel13_0 v)) v
noncomputable def k13_0 : List (Known Try.prog E) := [Known.of envOk [7] [(.ros 5)] v29_0 F29_0 w29_0 ok29_0, Known.of envOk [5, 3] [(.ptr 0 0 77 [(.own 1 5), .keep, .keep, .keep, .keep]), .keep] v30_0 F30_0 w30_0 ok30_0, Known.of envOk [5] [(.ptr 0 0 77 [(.own 1 5), .keep, .keep, .keep, .keep])] v31_0 F31_0 w31_0 ok31_0, Known.of envOk [5, 1] [(.ptr 0 0 77 [(.own 1 5), .keep, .keep, .keep, .keep]), .keep] v32_0 F32_0 w32_0 ok32_0, Known.of envOk [5] [(.ptr 0 0 77 [(.own 1 5), .keep, .keep, .keep, .keep])] v33_0 F33_0 w33_0 ok33_0, Known.of envOk [5] [(.ptr 0 0 77 [(.own 1 5), .keep, .keep, .keep, .keep])] v34_0 F34_0 w34_0 ok34_0, Known.of envOk [5] [(.ptr 0 0 77 [(.own 1 5), .keep, .keep, .keep, .keep])] v35_0 F35_0 w35_0 ok35_0]
def s13_0_9 : List (Nat × Pat) := [(5, (.ptr 0 0 77 [(.own 1 5), .keep, .keep, .keep, .keep])), (6, .keep), (7, (.own 2 29))]
noncomputable def L13_0 (n id : Nat) (st : St G) : Option ((Int × Int) × List (Int × Int × Int × Int × Int × Bool × Bool)) := match Nat.beq id 9 with | true => cutK Try.prog s13_0_9 [] c13_0_9.dec (K13_0 n) st | false => none
set_option maxRecDepth 100000 in
theorem e13_0 (n : Nat) (v : List Int) : ev Try.prog E (oracle k13_0) Try.f13.ntmps (fun x => mem x [9]) (L13_0 n) (finA Try.prog E Try.f13.results.toList [] w13_0.alts) 4000 [.code (Try.f13.body.getD .skip)] (argSt (v13_0.enc v)) = E13_0 (K13_0 n) v := by kernel_rfl
set_option maxRecDepth 100000 in
theorem b13_0_9 (n : Nat) (v : Int × (List (Int × Int × Int × Int × Int × Bool × Bool)) × (Int × Int × Int × Int) × List Int) : evCut Try.prog E (oracle k13_0) Try.f13.ntmps (fun x => mem x [9]) (L13_0 n) (finA Try.prog E Try.f13.results.toList [] w13_0.alts) 4000 (todoAt (Try.f13.body.getD .skip) 9) (cutSt s13_0_9 (c13_0_9.enc v)) = B13_0_9 (K13_0 n) v := by kernel_rfl
theorem ok13_0 : FnOk Try.prog E 13 v13_0.enc F13_0 w13_0.enc :=
  fn_known (fn := Try.f13) (c := (Try.f13.body.getD .skip)) Try.func13 (by kernel_rfl) rfl envOk (oracle_ok k13_0) mixed v13_0 F13_0 w13_0 [] [9] 4000 L13_0 (by kernel_rfl)
    (List.forall_mem_cons.2 ⟨⟨_, s13_0_9, c13_0_9.dec, c13_0_9.enc, fun n => (K13_0 n), c13_0_9.ok, fun _ _ => rfl, fun _ => rfl, fun n v _ h => (b13_0_9 n v).trans h⟩, fun _ h => (nomatch h)⟩) (fun v _ h => ⟨fuel13_0 v, (e13_0 _ v).trans h⟩) (fun _ => by kernel_rfl) (fun _ => by kernel_rfl) (fun _ _ => by kernel_rfl)
/- (*chicane/fx.M).bound -/
abbrev A67_0 : Type := Bool × Bool
abbrev R67_0 : Type := Int × Bool
def v67_0 : Pk G (Bool × Bool) := (pk (Sh.snd (Sh.cons (Sh.ptr 0 0) (Sh.fst (Sh.cons Sh.bool Sh.nil)))) (Sh.fst (Sh.hfix 0 83 (Sh.fst (Sh.cons Sh.bool Sh.nil)) Sh.hnil)))
def w67_0 : Wk G (Int × Bool) := (Wk.one [.keep] (pk (Sh.fst (Sh.cons (Sh.int .i64) Sh.nil)) (Sh.fst (Sh.hfix 0 83 (Sh.fst (Sh.cons Sh.bool Sh.nil)) Sh.hnil))))
def F67_0 (v : Bool × Bool) : Option (Int × Bool) :=
  bif v.1 then
    some ((-9223372036854775808 : Int), true)
  else
    some ((9223372036854775807 : Int), true)

noncomputable def k67_0 : List (Known Try.prog E) := []
noncomputable def L67_0 (n id : Nat) (st : St G) : Option (Int × Bool) := none
set_option maxRecDepth 100000 in
theorem e67_0 (n : Nat) (v : Bool × Bool) : ev Try.prog E (oracle k67_0) Try.f67.ntmps (fun x => mem x []) (L67_0 n) (finA Try.prog E Try.f67.results.toList [(.ptr 0 0 83 [.keep])] w67_0.alts) 4000 [.code (Try.f67.body.getD .skip)] (argSt (v67_0.enc v)) = F67_0 v := by kernel_rfl
theorem ok67_0 : FnOk Try.prog E 67 v67_0.enc F67_0 w67_0.enc :=
  fn_known (fn := Try.f67) (c := (Try.f67.body.getD .skip)) Try.func67 (by kernel_rfl) rfl envOk (oracle_ok k67_0) mixed v67_0 F67_0 w67_0 [(.ptr 0 0 83 [.keep])] [] 4000 L67_0 (by kernel_rfl)
    (fun _ h => nomatch h) (fun v _ h => ⟨0, (e67_0 _ v).trans h⟩) (fun _ => by kernel_rfl) (fun _ => by kernel_rfl) (fun _ _ => by kernel_rfl)
/- (*chicane/fx.M).nought -/
abbrev A65_0 : Type := Int × Bool
abbrev R65_0 : Type := Int × Bool
def v65_0 : Pk G (Int × Bool) := (pk (Sh.snd (Sh.cons (Sh.ptr 0 0) (Sh.fst (Sh.cons (Sh.int .i64) Sh.nil)))) (Sh.fst (Sh.hfix 0 83 (Sh.fst (Sh.cons Sh.bool Sh.nil)) Sh.hnil)))
def w65_0 : Wk G (Int × Bool) := (Wk.one [.keep] (pk (Sh.fst (Sh.cons (Sh.int .i64) Sh.nil)) (Sh.fst (Sh.hfix 0 83 (Sh.fst (Sh.cons Sh.bool Sh.nil)) Sh.hnil))))
def F65_0 (v : Int × Bool) : Option (Int × Bool) :=
  (F67_0 ((decide (v.1 < (0 : Int))), v.2)).bind fun r502 =>
  bif (v.1 == (0 : Int)) then
    some ((0 : Int), r502.2)
  else
    some (r502)

noncomputable def k65_0 : List (Known Try.prog E) := [Known.of envOk [5, 2] [(.ptr 0 0 83 [.keep]), .keep] v67_0 F67_0 w67_0 ok67_0]
noncomputable def L65_0 (n id : Nat) (st : St G) : Option (Int × Bool) := none
set_option maxRecDepth 100000 in
theorem e65_0 (n : Nat) (v : Int × Bool) : ev Try.prog E (oracle k65_0) Try.f65.ntmps (fun x => mem x []) (L65_0 n) (finA Try.prog E Try.f65.results.toList [(.ptr 0 0 83 [.keep])] w65_0.alts) 4000 [.code (Try.f65.body.getD .skip)] (argSt (v65_0.enc v)) = F65_0 v := by kernel_rfl
theorem ok65_0 : FnOk Try.prog E 65 v65_0.enc F65_0 w65_0.enc :=
  fn_known (fn := Try.f65) (c := (Try.f65.body.getD .skip)) Try.func65 (by kernel_rfl) rfl envOk (oracle_ok k65_0) mixed v65_0 F65_0 w65_0 [(.ptr 0 0 83 [.keep])] [] 4000 L65_0 (by kernel_rfl)
    (fun _ h => nomatch h) (fun v _ h => ⟨0, (e65_0 _ v).trans h⟩) (fun _ => by kernel_rfl) (fun _ => by kernel_rfl) (fun _ _ => by kernel_rfl)
/- math/bits.Sub64 -/
abbrev A70_x : Type := Int × Int × Int
abbrev R70_x : Type := Int × Int
def v70_x : Pk G (Int × Int × Int) := p3u
def w70_x : Wk G (Int × Int) := Wk.one [.keep, .keep] p2u
def F70_x (v : Int × Int × Int) : Option (Int × Int) := sub64F v
theorem ok70_x : FnOk Try.prog E 70 v70_x.enc F70_x w70_x.enc := sub64_known Try.func70 (by kernel_rfl) (by kernel_rfl) (by kernel_rfl) (by kernel_rfl)
/- chicane/wide.sized -/
abbrev A68_0 : Type := Int × Int
abbrev R68_0 : Type := (Int × Int) × Bool
def v68_0 : Pk G (Int × Int) := (Pk.fst (pk (Sh.fst (Sh.cons (Sh.agg (Sh.cons (Sh.int .i64) (Sh.fst (Sh.cons (Sh.int .u64) Sh.nil)))) Sh.nil)) Sh.hnil))
def w68_0 : Wk G ((Int × Int) × Bool) := (Wk.one [(.agg [.keep, .keep]), .keep] (Pk.fst (pk (Sh.cons (Sh.agg (Sh.cons (Sh.int .u64) (Sh.fst (Sh.cons (Sh.int .u64) Sh.nil)))) (Sh.fst (Sh.cons Sh.bool Sh.nil))) Sh.hnil)))
def F68_0 (v : Int × Int) : Option ((Int × Int) × Bool) :=
  bif (decide (v.1 ≥ (0 : Int))) then
    let x515 : Int := (IntKind.wrap .u64 v.1)
    some ((x515, v.2), false)
  else
    (F70_x ((0 : Int), (v.2, (0 : Int)))).bind fun r516 =>
    let x517 : Int := (IntKind.wrap .u64 v.1)
    (F70_x ((0 : Int), (x517, r516.2))).bind fun r518 =>
    some ((r518.1, r516.1), true)

noncomputable def k68_0 : List (Known Try.prog E) := [Known.of envOk [1, 1, 1] [.keep, .keep, .keep] v70_x F70_x w70_x ok70_x]
noncomputable def L68_0 (n id : Nat) (st : St G) : Option ((Int × Int) × Bool) := none
set_option maxRecDepth 100000 in
theorem e68_0 (n : Nat) (v : Int × Int) : ev Try.prog E (oracle k68_0) Try.f68.ntmps (fun x => mem x []) (L68_0 n) (finA Try.prog E Try.f68.results.toList [] w68_0.alts) 4000 [.code (Try.f68.body.getD .skip)] (argSt (v68_0.enc v)) = F68_0 v := by kernel_rfl
theorem ok68_0 : FnOk Try.prog E 68 v68_0.enc F68_0 w68_0.enc :=
  fn_known (fn := Try.f68) (c := (Try.f68.body.getD .skip)) Try.func68 (by kernel_rfl) rfl envOk (oracle_ok k68_0) mixed v68_0 F68_0 w68_0 [] [] 4000 L68_0 (by kernel_rfl)
    (fun _ h => nomatch h) (fun v _ h => ⟨0, (e68_0 _ v).trans h⟩) (fun _ => by kernel_rfl) (fun _ => by kernel_rfl) (fun _ _ => by kernel_rfl)
/- math/bits.Len64 -/
abbrev A72_0 : Type := Int
abbrev R72_0 : Type := Int
def v72_0 : Pk G Int := (Pk.fst (pk (Sh.fst (Sh.cons (Sh.int .u64) Sh.nil)) Sh.hnil))
def w72_0 : Wk G Int := (Wk.one [.keep] (Pk.fst (pk (Sh.fst (Sh.cons (Sh.int .i64) Sh.nil)) Sh.hnil)))
def F72_0 (v : Int) : Option Int :=
  bif (decide (v ≥ (4294967296 : Int))) then
    let x602 : Int := (Int.fdiv v (2 ^ 32))
    bif (decide (x602 ≥ (65536 : Int))) then
      let x603 : Int := (Int.fdiv x602 (2 ^ 16))
      bif (decide (x603 ≥ (256 : Int))) then
        let x604 : Int := (Int.fdiv x603 (2 ^ 8))
        let x605 : Int := (IntKind.wrap .u8 x604)
        (rdb sc1 x605).bind fun (x606 : UInt8) =>
        let x607 : Int := (IntKind.wrap .i64 (x606.toNat : Int))
        let x608 : Int := (IntKind.wrap .i64 ((56 : Int) + x607))
        some (x608)
      else
        let x609 : Int := (IntKind.wrap .u8 x603)
        (rdb sc1 x609).bind fun (x610 : UInt8) =>
        let x611 : Int := (IntKind.wrap .i64 (x610.toNat : Int))
        let x612 : Int := (IntKind.wrap .i64 ((48 : Int) + x611))
        some (x612)
    else
      bif (decide (x602 ≥ (256 : Int))) then
        let x613 : Int := (Int.fdiv x602 (2 ^ 8))
        let x614 : Int := (IntKind.wrap .u8 x613)
        (rdb sc1 x614).bind fun (x615 : UInt8) =>
        let x616 : Int := (IntKind.wrap .i64 (x615.toNat : Int))
        let x617 : Int := (IntKind.wrap .i64 ((40 : Int) + x616))
        some (x617)
      else
        let x618 : Int := (IntKind.wrap .u8 x602)
        (rdb sc1 x618).bind fun (x619 : UInt8) =>
        let x620 : Int := (IntKind.wrap .i64 (x619.toNat : Int))
        let x621 : Int := (IntKind.wrap .i64 ((32 : Int) + x620))
        some (x621)
  else
    bif (decide (v ≥ (65536 : Int))) then
      let x622 : Int := (Int.fdiv v (2 ^ 16))
      bif (decide (x622 ≥ (256 : Int))) then
        let x623 : Int := (Int.fdiv x622 (2 ^ 8))
        let x624 : Int := (IntKind.wrap .u8 x623)
        (rdb sc1 x624).bind fun (x625 : UInt8) =>
        let x626 : Int := (IntKind.wrap .i64 (x625.toNat : Int))
        let x627 : Int := (IntKind.wrap .i64 ((24 : Int) + x626))
        some (x627)
      else
        let x628 : Int := (IntKind.wrap .u8 x622)
        (rdb sc1 x628).bind fun (x629 : UInt8) =>
        let x630 : Int := (IntKind.wrap .i64 (x629.toNat : Int))
        let x631 : Int := (IntKind.wrap .i64 ((16 : Int) + x630))
        some (x631)
    else
      bif (decide (v ≥ (256 : Int))) then
        let x632 : Int := (Int.fdiv v (2 ^ 8))
        let x633 : Int := (IntKind.wrap .u8 x632)
        (rdb sc1 x633).bind fun (x634 : UInt8) =>
        let x635 : Int := (IntKind.wrap .i64 (x634.toNat : Int))
        let x636 : Int := (IntKind.wrap .i64 ((8 : Int) + x635))
        some (x636)
      else
        let x637 : Int := (IntKind.wrap .u8 v)
        (rdb sc1 x637).bind fun (x638 : UInt8) =>
        let x639 : Int := (IntKind.wrap .i64 (x638.toNat : Int))
        let x640 : Int := (IntKind.wrap .i64 ((0 : Int) + x639))
        some (x640)

noncomputable def k72_0 : List (Known Try.prog E) := []
noncomputable def L72_0 (n id : Nat) (st : St G) : Option Int := none
set_option maxRecDepth 100000 in
theorem e72_0 (n : Nat) (v : Int) : ev Try.prog E (oracle k72_0) Try.f72.ntmps (fun x => mem x []) (L72_0 n) (finA Try.prog E Try.f72.results.toList [] w72_0.alts) 4000 [.code (Try.f72.body.getD .skip)] (argSt (v72_0.enc v)) = F72_0 v := by kernel_rfl
theorem ok72_0 : FnOk Try.prog E 72 v72_0.enc F72_0 w72_0.enc :=
  fn_known (fn := Try.f72) (c := (Try.f72.body.getD .skip)) Try.func72 (by kernel_rfl) rfl envOk (oracle_ok k72_0) mixed v72_0 F72_0 w72_0 [] [] 4000 L72_0 (by kernel_rfl)
    (fun _ h => nomatch h) (fun v _ h => ⟨0, (e72_0 _ v).trans h⟩) (fun _ => by kernel_rfl) (fun _ => by kernel_rfl) (fun _ _ => by kernel_rfl)
/- math/bits.LeadingZeros64 -/
abbrev A71_0 : Type := Int
abbrev R71_0 : Type := Int
def v71_0 : Pk G Int := (Pk.fst (pk (Sh.fst (Sh.cons (Sh.int .u64) Sh.nil)) Sh.hnil))
def w71_0 : Wk G Int := (Wk.one [.keep] (Pk.fst (pk (Sh.fst (Sh.cons (Sh.int .i64) Sh.nil)) Sh.hnil)))
def F71_0 (v : Int) : Option Int :=
  (F72_0 v).bind fun r645 =>
  let x646 : Int := (IntKind.wrap .i64 ((64 : Int) - r645))
  some (x646)

noncomputable def k71_0 : List (Known Try.prog E) := [Known.of envOk [1] [.keep] v72_0 F72_0 w72_0 ok72_0]
noncomputable def L71_0 (n id : Nat) (st : St G) : Option Int := none
set_option maxRecDepth 100000 in
theorem e71_0 (n : Nat) (v : Int) : ev Try.prog E (oracle k71_0) Try.f71.ntmps (fun x => mem x []) (L71_0 n) (finA Try.prog E Try.f71.results.toList [] w71_0.alts) 4000 [.code (Try.f71.body.getD .skip)] (argSt (v71_0.enc v)) = F71_0 v := by kernel_rfl
theorem ok71_0 : FnOk Try.prog E 71 v71_0.enc F71_0 w71_0.enc :=
  fn_known (fn := Try.f71) (c := (Try.f71.body.getD .skip)) Try.func71 (by kernel_rfl) rfl envOk (oracle_ok k71_0) mixed v71_0 F71_0 w71_0 [] [] 4000 L71_0 (by kernel_rfl)
    (fun _ h => nomatch h) (fun v _ h => ⟨0, (e71_0 _ v).trans h⟩) (fun _ => by kernel_rfl) (fun _ => by kernel_rfl) (fun _ _ => by kernel_rfl)
/- math/bits.Div64 -/
abbrev A69_0 : Type := Int × Int × Int
abbrev R69_0 : Type := Int × Int
def v69_0 : Pk G (Int × Int × Int) := (Pk.fst (pk (Sh.cons (Sh.int .u64) (Sh.cons (Sh.int .u64) (Sh.fst (Sh.cons (Sh.int .u64) Sh.nil)))) Sh.hnil))
def w69_0 : Wk G (Int × Int) := (Wk.one [.keep, .keep] (Pk.fst (pk (Sh.cons (Sh.int .u64) (Sh.fst (Sh.cons (Sh.int .u64) Sh.nil))) Sh.hnil)))
def c69_0_17 : Pk G (Int × Int × Int × Int × Int × Int × Int × Int × Int) := (Pk.fst (pk (Sh.cons (Sh.int .u64) (Sh.cons (Sh.int .u64) (Sh.cons (Sh.int .u64) (Sh.cons (Sh.int .u64) (Sh.cons (Sh.int .u64) (Sh.cons (Sh.int .u64) (Sh.cons (Sh.int .u64) (Sh.cons (Sh.int .u64) (Sh.fst (Sh.cons (Sh.int .u64) Sh.nil)))))))))) Sh.hnil))
def c69_0_24 : Pk G (Int × Int × Int × Int × Int × Int × Int × Int × Int) := (Pk.fst (pk (Sh.cons (Sh.int .u64) (Sh.cons (Sh.int .u64) (Sh.cons (Sh.int .u64) (Sh.cons (Sh.int .u64) (Sh.cons (Sh.int .u64) (Sh.cons (Sh.int .u64) (Sh.cons (Sh.int .u64) (Sh.cons (Sh.int .u64) (Sh.fst (Sh.cons (Sh.int .u64) Sh.nil)))))))))) Sh.hnil))
def B69_0_17 (K : ((Int × Int × Int × Int × Int × Int × Int × Int × Int) → Option (Int × Int)) × ((Int × Int × Int × Int × Int × Int × Int × Int × Int) → Option (Int × Int))) (v : Int × Int × Int × Int × Int × Int × Int × Int × Int) : Option (Int × Int) :=
  bif (decide (v.2.2.2.2.2.2.2.1 ≥ (4294967296 : Int))) then
    let x941 : Int := (IntKind.wrap .u64 (v.2.2.2.2.2.2.2.1 - (1 : Int)))
    let x942 : Int := (IntKind.wrap .u64 (v.2.2.2.2.2.2.2.2 + v.2.2.1))
    bif (decide (x942 ≥ (4294967296 : Int))) then
      let x943 : Int := (IntKind.wrap .u64 (v.2.2.2.2.1 * (4294967296 : Int)))
      let x944 : Int := (IntKind.wrap .u64 (x943 + v.2.2.2.2.2.1))
      let x945 : Int := (IntKind.wrap .u64 (x941 * v.1))
      let x946 : Int := (IntKind.wrap .u64 (x944 - x945))
      (chk (v.2.2.1 != 0)).bind fun _ =>
      let x947 : Int := (IntKind.wrap .u64 (Int.tdiv x946 v.2.2.1))
      let x948 : Int := (IntKind.wrap .u64 (x947 * v.2.2.1))
      let x949 : Int := (IntKind.wrap .u64 (x946 - x948))
      K.2 (v.1, (v.2.1, (v.2.2.1, (v.2.2.2.1, (v.2.2.2.2.2.2.1, (x941, (x949, (x946, x947))))))))
    else
      K.1 (v.1, (v.2.1, (v.2.2.1, (v.2.2.2.1, (v.2.2.2.2.1, (v.2.2.2.2.2.1, (v.2.2.2.2.2.2.1, (x941, x942))))))))
  else
    let x950 : Int := (IntKind.wrap .u64 (v.2.2.2.2.2.2.2.1 * v.2.2.2.1))
    let x951 : Int := (IntKind.wrap .u64 ((4294967296 : Int) * v.2.2.2.2.2.2.2.2))
    let x952 : Int := (IntKind.wrap .u64 (x951 + v.2.2.2.2.2.1))
    bif (decide (x950 > x952)) then
      let x953 : Int := (IntKind.wrap .u64 (v.2.2.2.2.2.2.2.1 - (1 : Int)))
      let x954 : Int := (IntKind.wrap .u64 (v.2.2.2.2.2.2.2.2 + v.2.2.1))
      bif (decide (x954 ≥ (4294967296 : Int))) then
        let x955 : Int := (IntKind.wrap .u64 (v.2.2.2.2.1 * (4294967296 : Int)))
        let x956 : Int := (IntKind.wrap .u64 (x955 + v.2.2.2.2.2.1))
        let x957 : Int := (IntKind.wrap .u64 (x953 * v.1))
        let x958 : Int := (IntKind.wrap .u64 (x956 - x957))
        (chk (v.2.2.1 != 0)).bind fun _ =>
        let x959 : Int := (IntKind.wrap .u64 (Int.tdiv x958 v.2.2.1))
        let x960 : Int := (IntKind.wrap .u64 (x959 * v.2.2.1))
        let x961 : Int := (IntKind.wrap .u64 (x958 - x960))
        K.2 (v.1, (v.2.1, (v.2.2.1, (v.2.2.2.1, (v.2.2.2.2.2.2.1, (x953, (x961, (x958, x959))))))))
      else
        K.1 (v.1, (v.2.1, (v.2.2.1, (v.2.2.2.1, (v.2.2.2.2.1, (v.2.2.2.2.2.1, (v.2.2.2.2.2.2.1, (x953, x954))))))))
    else
      let x962 : Int := (IntKind.wrap .u64 (v.2.2.2.2.1 * (4294967296 : Int)))
      let x963 : Int := (IntKind.wrap .u64 (x962 + v.2.2.2.2.2.1))
      let x964 : Int := (IntKind.wrap .u64 (v.2.2.2.2.2.2.2.1 * v.1))
      let x965 : Int := (IntKind.wrap .u64 (x963 - x964))
      (chk (v.2.2.1 != 0)).bind fun _ =>
      let x966 : Int := (IntKind.wrap .u64 (Int.tdiv x965 v.2.2.1))
      let x967 : Int := (IntKind.wrap .u64 (x966 * v.2.2.1))
      let x968 : Int := (IntKind.wrap .u64 (x965 - x967))
      K.2 (v.1, (v.2.1, (v.2.2.1, (v.2.2.2.1, (v.2.2.2.2.2.2.1, (v.2.2.2.2.2.2.2.1, (x968, (x965, x966))))))))

def B69_0_24 (K : ((Int × Int × Int × Int × Int × Int × Int × Int × Int) → Option (Int × Int)) × ((Int × Int × Int × Int × Int × Int × Int × Int × Int) → Option (Int × Int))) (v : Int × Int × Int × Int × Int × Int × Int × Int × Int) : Option (Int × Int) :=
  bif (decide (v.2.2.2.2.2.2.2.2 ≥ (4294967296 : Int))) then
    let x969 : Int := (IntKind.wrap .u64 (v.2.2.2.2.2.2.2.2 - (1 : Int)))
    let x970 : Int := (IntKind.wrap .u64 (v.2.2.2.2.2.2.1 + v.2.2.1))
    bif (decide (x970 ≥ (4294967296 : Int))) then
      let x971 : Int := (IntKind.wrap .u64 (v.2.2.2.2.2.1 * (4294967296 : Int)))
      let x972 : Int := (IntKind.wrap .u64 (x971 + x969))
      let x973 : Int := (IntKind.wrap .u64 (v.2.2.2.2.2.2.2.1 * (4294967296 : Int)))
      let x974 : Int := (IntKind.wrap .u64 (x973 + v.2.2.2.2.1))
      let x975 : Int := (IntKind.wrap .u64 (x969 * v.1))
      let x976 : Int := (IntKind.wrap .u64 (x974 - x975))
      (chk (decide (0 ≤ v.2.1))).bind fun _ =>
      let x977 : Int := (Int.fdiv x976 (2 ^ min (v.2.1).toNat 64))
      some (x972, x977)
    else
      K.2 (v.1, (v.2.1, (v.2.2.1, (v.2.2.2.1, (v.2.2.2.2.1, (v.2.2.2.2.2.1, (x970, (v.2.2.2.2.2.2.2.1, x969))))))))
  else
    let x978 : Int := (IntKind.wrap .u64 (v.2.2.2.2.2.2.2.2 * v.2.2.2.1))
    let x979 : Int := (IntKind.wrap .u64 ((4294967296 : Int) * v.2.2.2.2.2.2.1))
    let x980 : Int := (IntKind.wrap .u64 (x979 + v.2.2.2.2.1))
    bif (decide (x978 > x980)) then
      let x981 : Int := (IntKind.wrap .u64 (v.2.2.2.2.2.2.2.2 - (1 : Int)))
      let x982 : Int := (IntKind.wrap .u64 (v.2.2.2.2.2.2.1 + v.2.2.1))
      bif (decide (x982 ≥ (4294967296 : Int))) then
        let x983 : Int := (IntKind.wrap .u64 (v.2.2.2.2.2.1 * (4294967296 : Int)))
        let x984 : Int := (IntKind.wrap .u64 (x983 + x981))
        let x985 : Int := (IntKind.wrap .u64 (v.2.2.2.2.2.2.2.1 * (4294967296 : Int)))
        let x986 : Int := (IntKind.wrap .u64 (x985 + v.2.2.2.2.1))
        let x987 : Int := (IntKind.wrap .u64 (x981 * v.1))
        let x988 : Int := (IntKind.wrap .u64 (x986 - x987))
        (chk (decide (0 ≤ v.2.1))).bind fun _ =>
        let x989 : Int := (Int.fdiv x988 (2 ^ min (v.2.1).toNat 64))
        some (x984, x989)
      else
        K.2 (v.1, (v.2.1, (v.2.2.1, (v.2.2.2.1, (v.2.2.2.2.1, (v.2.2.2.2.2.1, (x982, (v.2.2.2.2.2.2.2.1, x981))))))))
    else
      let x990 : Int := (IntKind.wrap .u64 (v.2.2.2.2.2.1 * (4294967296 : Int)))
      let x991 : Int := (IntKind.wrap .u64 (x990 + v.2.2.2.2.2.2.2.2))
      let x992 : Int := (IntKind.wrap .u64 (v.2.2.2.2.2.2.2.1 * (4294967296 : Int)))
      let x993 : Int := (IntKind.wrap .u64 (x992 + v.2.2.2.2.1))
      let x994 : Int := (IntKind.wrap .u64 (v.2.2.2.2.2.2.2.2 * v.1))
      let x995 : Int := (IntKind.wrap .u64 (x993 - x994))
      (chk (decide (0 ≤ v.2.1))).bind fun _ =>
      let x996 : Int := (Int.fdiv x995 (2 ^ min (v.2.1).toNat 64))
      some (x991, x996)

def E69_0 (K : ((Int × Int × Int × Int × Int × Int × Int × Int × Int) → Option (Int × Int)) × ((Int × Int × Int × Int × Int × Int × Int × Int × Int) → Option (Int × Int))) (v : Int × Int × Int) : Option (Int × Int) :=
  bif (v.2.2 == (0 : Int)) then
    none
  else
    bif (decide (v.2.2 ≤ v.1)) then
      none
    else
      bif (v.1 == (0 : Int)) then
        (chk (v.2.2 != 0)).bind fun _ =>
        let x924 : Int := (IntKind.wrap .u64 (Int.tdiv v.2.1 v.2.2))
        (chk (v.2.2 != 0)).bind fun _ =>
        let x925 : Int := (Int.tmod v.2.1 v.2.2)
        some (x924, x925)
      else
        (F71_0 v.2.2).bind fun r926 =>
        let x927 : Int := (IntKind.wrap .u64 r926)
        (chk (decide (0 ≤ x927))).bind fun _ =>
        let x928 : Int := (IntKind.wrap .u64 (v.2.2 * 2 ^ min (x927).toNat 64))
        let x929 : Int := (Int.fdiv x928 (2 ^ 32))
        let x930 : Int := (Go.bits .and .u64 x928 (4294967295 : Int))
        (chk (decide (0 ≤ x927))).bind fun _ =>
        let x931 : Int := (IntKind.wrap .u64 (v.1 * 2 ^ min (x927).toNat 64))
        let x932 : Int := (IntKind.wrap .u64 ((64 : Int) - x927))
        (chk (decide (0 ≤ x932))).bind fun _ =>
        let x933 : Int := (Int.fdiv v.2.1 (2 ^ min (x932).toNat 64))
        let x934 : Int := (Go.bits .or .u64 x931 x933)
        (chk (decide (0 ≤ x927))).bind fun _ =>
        let x935 : Int := (IntKind.wrap .u64 (v.2.1 * 2 ^ min (x927).toNat 64))
        let x936 : Int := (Int.fdiv x935 (2 ^ 32))
        let x937 : Int := (Go.bits .and .u64 x935 (4294967295 : Int))
        (chk (x929 != 0)).bind fun _ =>
        let x938 : Int := (IntKind.wrap .u64 (Int.tdiv x934 x929))
        let x939 : Int := (IntKind.wrap .u64 (x938 * x929))
        let x940 : Int := (IntKind.wrap .u64 (x934 - x939))
        K.1 (x928, (x927, (x929, (x930, (x934, (x936, (x937, (x938, x940))))))))

def K69_0 : Nat → ((Int × Int × Int × Int × Int × Int × Int × Int × Int) → Option (Int × Int)) × ((Int × Int × Int × Int × Int × Int × Int × Int × Int) → Option (Int × Int))
  | 0 => (fun _ => none, fun _ => none)
  | n + 1 => (B69_0_17 (K69_0 n), B69_0_24 (K69_0 n))
def fuel69_0 (v : Int × Int × Int) : Nat := 1000
def F69_0 (v : Int × Int × Int) : Option (Int × Int) := E69_0 (K69_0 (fuel69_0 v)) v
noncomputable def k69_0 : List (Known Try.prog E) := [Known.of envOk [1] [.keep] v71_0 F71_0 w71_0 ok71_0]
def s69_0_24 : List (Nat × Pat) := [(2, .keep), (8, .keep), (9, .keep), (10, .keep), (14, .keep), (15, .keep), (16, .keep), (17, .keep), (18, .keep)]
def s69_0_17 : List (Nat × Pat) := [(2, .keep), (8, .keep), (9, .keep), (10, .keep), (11, .keep), (13, .keep), (14, .keep), (15, .keep), (16, .keep)]
noncomputable def L69_0 (n id : Nat) (st : St G) : Option (Int × Int) := match Nat.beq id 17 with | true => cutK Try.prog s69_0_17 [] c69_0_17.dec (K69_0 n).1 st | false => match Nat.beq id 24 with | true => cutK Try.prog s69_0_24 [] c69_0_24.dec (K69_0 n).2 st | false => none
set_option maxRecDepth 100000 in
theorem e69_0 (n : Nat) (v : Int × Int × Int) : ev Try.prog E (oracle k69_0) Try.f69.ntmps (fun x => mem x [17, 24]) (L69_0 n) (finA Try.prog E Try.f69.results.toList [] w69_0.alts) 4000 [.code (Try.f69.body.getD .skip)] (argSt (v69_0.enc v)) = E69_0 (K69_0 n) v := by kernel_rfl
set_option maxRecDepth 100000 in
theorem b69_0_17 (n : Nat) (v : Int × Int × Int × Int × Int × Int × Int × Int × Int) : evCut Try.prog E (oracle k69_0) Try.f69.ntmps (fun x => mem x [17, 24]) (L69_0 n) (finA Try.prog E Try.f69.results.toList [] w69_0.alts) 4000 (todoAt (Try.f69.body.getD .skip) 17) (cutSt s69_0_17 (c69_0_17.enc v)) = B69_0_17 (K69_0 n) v := by kernel_rfl
set_option maxRecDepth 100000 in
theorem b69_0_24 (n : Nat) (v : Int × Int × Int × Int × Int × Int × Int × Int × Int) : evCut Try.prog E (oracle k69_0) Try.f69.ntmps (fun x => mem x [17, 24]) (L69_0 n) (finA Try.prog E Try.f69.results.toList [] w69_0.alts) 4000 (todoAt (Try.f69.body.getD .skip) 24) (cutSt s69_0_24 (c69_0_24.enc v)) = B69_0_24 (K69_0 n) v := by kernel_rfl
theorem ok69_0 : FnOk Try.prog E 69 v69_0.enc F69_0 w69_0.enc :=
  fn_known (fn := Try.f69) (c := (Try.f69.body.getD .skip)) Try.func69 (by kernel_rfl) rfl envOk (oracle_ok k69_0) mixed v69_0 F69_0 w69_0 [] [17, 24] 4000 L69_0 (by kernel_rfl)
    (List.forall_mem_cons.2 ⟨⟨_, s69_0_17, c69_0_17.dec, c69_0_17.enc, fun n => (K69_0 n).1, c69_0_17.ok, fun _ _ => rfl, fun _ => rfl, fun n v _ h => (b69_0_17 n v).trans h⟩, List.forall_mem_cons.2 ⟨⟨_, s69_0_24, c69_0_24.dec, c69_0_24.enc, fun n => (K69_0 n).2, c69_0_24.ok, fun _ _ => rfl, fun _ => rfl, fun n v _ h => (b69_0_24 n v).trans h⟩, fun _ h => (nomatch h)⟩⟩) (fun v _ h => ⟨fuel69_0 v, (e69_0 _ v).trans h⟩) (fun _ => by kernel_rfl) (fun _ => by kernel_rfl) (fun _ _ => by kernel_rfl)
/- chicane/wide.Div -/
abbrev A66_0 : Type := (Int × Int) × Int
abbrev R66_0 : Type := Int × Bool
def v66_0 : Pk G ((Int × Int) × Int) := (Pk.fst (pk (Sh.cons (Sh.agg (Sh.cons (Sh.int .i64) (Sh.fst (Sh.cons (Sh.int .u64) Sh.nil)))) (Sh.fst (Sh.cons (Sh.int .i64) Sh.nil))) Sh.hnil))
def w66_0 : Wk G (Int × Bool) := (Wk.one [.keep, .keep] (Pk.fst (pk (Sh.cons (Sh.int .i64) (Sh.fst (Sh.cons Sh.bool Sh.nil))) Sh.hnil)))
def F66_0 (v : (Int × Int) × Int) : Option (Int × Bool) :=
  (F68_0 v.1).bind fun r1120 =>
  let x1121 : Int := (IntKind.wrap .u64 v.2)
  bif (decide (v.2 < (0 : Int))) then
    let x1122 : Int := (IntKind.wrap .u64 (0 - x1121))
    bif (decide (r1120.1.1 ≥ x1122)) then
      some ((0 : Int), false)
    else
      (F69_0 (r1120.1.1, (r1120.1.2, x1122))).bind fun r1123 =>
      let x1124 : Int := (IntKind.wrap .u64 (x1122 - r1123.2))
      bif (decide (r1123.2 > x1124)) then
        bif (decide (r1123.2 > (0 : Int))) then
          let x1125 : Int := (IntKind.wrap .u64 (r1123.1 + (1 : Int)))
          bif (x1125 == (0 : Int)) then
            some ((0 : Int), false)
          else
            bif (!r1120.2) then
              bif (decide (x1125 ≤ (9223372036854775808 : Int))) then
                let x1126 : Int := (IntKind.wrap .u64 (0 - x1125))
                let x1127 : Int := (IntKind.wrap .i64 x1126)
                some (x1127, true)
              else
                bif (!(!r1120.2)) then
                  bif (decide (x1125 < (9223372036854775808 : Int))) then
                    let x1128 : Int := (IntKind.wrap .i64 x1125)
                    some (x1128, true)
                  else
                    some ((0 : Int), false)
                else
                  some ((0 : Int), false)
            else
              bif (!(!r1120.2)) then
                bif (decide (x1125 < (9223372036854775808 : Int))) then
                  let x1129 : Int := (IntKind.wrap .i64 x1125)
                  some (x1129, true)
                else
                  some ((0 : Int), false)
              else
                some ((0 : Int), false)
        else
          bif (!r1120.2) then
            bif (decide (r1123.1 ≤ (9223372036854775808 : Int))) then
              let x1130 : Int := (IntKind.wrap .u64 (0 - r1123.1))
              let x1131 : Int := (IntKind.wrap .i64 x1130)
              some (x1131, true)
            else
              bif (!(!r1120.2)) then
                bif (decide (r1123.1 < (9223372036854775808 : Int))) then
                  let x1132 : Int := (IntKind.wrap .i64 r1123.1)
                  some (x1132, true)
                else
                  some ((0 : Int), false)
              else
                some ((0 : Int), false)
          else
            bif (!(!r1120.2)) then
              bif (decide (r1123.1 < (9223372036854775808 : Int))) then
                let x1133 : Int := (IntKind.wrap .i64 r1123.1)
                some (x1133, true)
              else
                some ((0 : Int), false)
            else
              some ((0 : Int), false)
      else
        let x1134 : Int := (IntKind.wrap .u64 (x1122 - r1123.2))
        bif (r1123.2 == x1134) then
          let x1135 : Int := (Go.bits .and .u64 r1123.1 (1 : Int))
          bif (x1135 == (1 : Int)) then
            bif (decide (r1123.2 > (0 : Int))) then
              let x1136 : Int := (IntKind.wrap .u64 (r1123.1 + (1 : Int)))
              bif (x1136 == (0 : Int)) then
                some ((0 : Int), false)
              else
                bif (!r1120.2) then
                  bif (decide (x1136 ≤ (9223372036854775808 : Int))) then
                    let x1137 : Int := (IntKind.wrap .u64 (0 - x1136))
                    let x1138 : Int := (IntKind.wrap .i64 x1137)
                    some (x1138, true)
                  else
                    bif (!(!r1120.2)) then
                      bif (decide (x1136 < (9223372036854775808 : Int))) then
                        let x1139 : Int := (IntKind.wrap .i64 x1136)
                        some (x1139, true)
                      else
                        some ((0 : Int), false)
                    else
                      some ((0 : Int), false)
                else
                  bif (!(!r1120.2)) then
                    bif (decide (x1136 < (9223372036854775808 : Int))) then
                      let x1140 : Int := (IntKind.wrap .i64 x1136)
                      some (x1140, true)
                    else
                      some ((0 : Int), false)
                  else
                    some ((0 : Int), false)
            else
              bif (!r1120.2) then
                bif (decide (r1123.1 ≤ (9223372036854775808 : Int))) then
                  let x1141 : Int := (IntKind.wrap .u64 (0 - r1123.1))
                  let x1142 : Int := (IntKind.wrap .i64 x1141)
                  some (x1142, true)
                else
                  bif (!(!r1120.2)) then
                    bif (decide (r1123.1 < (9223372036854775808 : Int))) then
                      let x1143 : Int := (IntKind.wrap .i64 r1123.1)
                      some (x1143, true)
                    else
                      some ((0 : Int), false)
                  else
                    some ((0 : Int), false)
              else
                bif (!(!r1120.2)) then
                  bif (decide (r1123.1 < (9223372036854775808 : Int))) then
                    let x1144 : Int := (IntKind.wrap .i64 r1123.1)
                    some (x1144, true)
                  else
                    some ((0 : Int), false)
                else
                  some ((0 : Int), false)
          else
            bif (!r1120.2) then
              bif (decide (r1123.1 ≤ (9223372036854775808 : Int))) then
                let x1145 : Int := (IntKind.wrap .u64 (0 - r1123.1))
                let x1146 : Int := (IntKind.wrap .i64 x1145)
                some (x1146, true)
              else
                bif (!(!r1120.2)) then
                  bif (decide (r1123.1 < (9223372036854775808 : Int))) then
                    let x1147 : Int := (IntKind.wrap .i64 r1123.1)
                    some (x1147, true)
                  else
                    some ((0 : Int), false)
                else
                  some ((0 : Int), false)
            else
              bif (!(!r1120.2)) then
                bif (decide (r1123.1 < (9223372036854775808 : Int))) then
                  let x1148 : Int := (IntKind.wrap .i64 r1123.1)
                  some (x1148, true)
                else
                  some ((0 : Int), false)
              else
                some ((0 : Int), false)
        else
          bif (!r1120.2) then
            bif (decide (r1123.1 ≤ (9223372036854775808 : Int))) then
              let x1149 : Int := (IntKind.wrap .u64 (0 - r1123.1))
              let x1150 : Int := (IntKind.wrap .i64 x1149)
              some (x1150, true)
            else
              bif (!(!r1120.2)) then
                bif (decide (r1123.1 < (9223372036854775808 : Int))) then
                  let x1151 : Int := (IntKind.wrap .i64 r1123.1)
                  some (x1151, true)
                else
                  some ((0 : Int), false)
              else
                some ((0 : Int), false)
          else
            bif (!(!r1120.2)) then
              bif (decide (r1123.1 < (9223372036854775808 : Int))) then
                let x1152 : Int := (IntKind.wrap .i64 r1123.1)
                some (x1152, true)
              else
                some ((0 : Int), false)
            else
              some ((0 : Int), false)
  else
    bif (decide (r1120.1.1 ≥ x1121)) then
      some ((0 : Int), false)
    else
      (F69_0 (r1120.1.1, (r1120.1.2, x1121))).bind fun r1153 =>
      let x1154 : Int := (IntKind.wrap .u64 (x1121 - r1153.2))
      bif (decide (r1153.2 > x1154)) then
        bif (decide (r1153.2 > (0 : Int))) then
          let x1155 : Int := (IntKind.wrap .u64 (r1153.1 + (1 : Int)))
          bif (x1155 == (0 : Int)) then
            some ((0 : Int), false)
          else
            bif r1120.2 then
              bif (decide (x1155 ≤ (9223372036854775808 : Int))) then
                let x1156 : Int := (IntKind.wrap .u64 (0 - x1155))
                let x1157 : Int := (IntKind.wrap .i64 x1156)
                some (x1157, true)
              else
                bif (!r1120.2) then
                  bif (decide (x1155 < (9223372036854775808 : Int))) then
                    let x1158 : Int := (IntKind.wrap .i64 x1155)
                    some (x1158, true)
                  else
                    some ((0 : Int), false)
                else
                  some ((0 : Int), false)
            else
              bif (!r1120.2) then
                bif (decide (x1155 < (9223372036854775808 : Int))) then
                  let x1159 : Int := (IntKind.wrap .i64 x1155)
                  some (x1159, true)
                else
                  some ((0 : Int), false)
              else
                some ((0 : Int), false)
        else
          bif r1120.2 then
            bif (decide (r1153.1 ≤ (9223372036854775808 : Int))) then
              let x1160 : Int := (IntKind.wrap .u64 (0 - r1153.1))
              let x1161 : Int := (IntKind.wrap .i64 x1160)
              some (x1161, true)
            else
              bif (!r1120.2) then
                bif (decide (r1153.1 < (9223372036854775808 : Int))) then
                  let x1162 : Int := (IntKind.wrap .i64 r1153.1)
                  some (x1162, true)
                else
                  some ((0 : Int), false)
              else
                some ((0 : Int), false)
          else
            bif (!r1120.2) then
              bif (decide (r1153.1 < (9223372036854775808 : Int))) then
                let x1163 : Int := (IntKind.wrap .i64 r1153.1)
                some (x1163, true)
              else
                some ((0 : Int), false)
            else
              some ((0 : Int), false)
      else
        let x1164 : Int := (IntKind.wrap .u64 (x1121 - r1153.2))
        bif (r1153.2 == x1164) then
          let x1165 : Int := (Go.bits .and .u64 r1153.1 (1 : Int))
          bif (x1165 == (1 : Int)) then
            bif (decide (r1153.2 > (0 : Int))) then
              let x1166 : Int := (IntKind.wrap .u64 (r1153.1 + (1 : Int)))
              bif (x1166 == (0 : Int)) then
                some ((0 : Int), false)
              else
                bif r1120.2 then
                  bif (decide (x1166 ≤ (9223372036854775808 : Int))) then
                    let x1167 : Int := (IntKind.wrap .u64 (0 - x1166))
                    let x1168 : Int := (IntKind.wrap .i64 x1167)
                    some (x1168, true)
                  else
                    bif (!r1120.2) then
                      bif (decide (x1166 < (9223372036854775808 : Int))) then
                        let x1169 : Int := (IntKind.wrap .i64 x1166)
                        some (x1169, true)
                      else
                        some ((0 : Int), false)
                    else
                      some ((0 : Int), false)
                else
                  bif (!r1120.2) then
                    bif (decide (x1166 < (9223372036854775808 : Int))) then
                      let x1170 : Int := (IntKind.wrap .i64 x1166)
                      some (x1170, true)
                    else
                      some ((0 : Int), false)
                  else
                    some ((0 : Int), false)
            else
              bif r1120.2 then
                bif (decide (r1153.1 ≤ (9223372036854775808 : Int))) then
                  let x1171 : Int := (IntKind.wrap .u64 (0 - r1153.1))
                  let x1172 : Int := (IntKind.wrap .i64 x1171)
                  some (x1172, true)
                else
                  bif (!r1120.2) then
                    bif (decide (r1153.1 < (9223372036854775808 : Int))) then
                      let x1173 : Int := (IntKind.wrap .i64 r1153.1)
                      some (x1173, true)
                    else
                      some ((0 : Int), false)
                  else
                    some ((0 : Int), false)
              else
                bif (!r1120.2) then
                  bif (decide (r1153.1 < (9223372036854775808 : Int))) then
                    let x1174 : Int := (IntKind.wrap .i64 r1153.1)
                    some (x1174, true)
                  else
                    some ((0 : Int), false)
                else
                  some ((0 : Int), false)
          else
            bif r1120.2 then
              bif (decide (r1153.1 ≤ (9223372036854775808 : Int))) then
                let x1175 : Int := (IntKind.wrap .u64 (0 - r1153.1))
                let x1176 : Int := (IntKind.wrap .i64 x1175)
                some (x1176, true)
              else
                bif (!r1120.2) then
                  bif (decide (r1153.1 < (9223372036854775808 : Int))) then
                    let x1177 : Int := (IntKind.wrap .i64 r1153.1)
                    some (x1177, true)
                  else
                    some ((0 : Int), false)
                else
                  some ((0 : Int), false)
            else
              bif (!r1120.2) then
                bif (decide (r1153.1 < (9223372036854775808 : Int))) then
                  let x1178 : Int := (IntKind.wrap .i64 r1153.1)
                  some (x1178, true)
                else
                  some ((0 : Int), false)
              else
                some ((0 : Int), false)
        else
          bif r1120.2 then
            bif (decide (r1153.1 ≤ (9223372036854775808 : Int))) then
              let x1179 : Int := (IntKind.wrap .u64 (0 - r1153.1))
              let x1180 : Int := (IntKind.wrap .i64 x1179)
              some (x1180, true)
            else
              bif (!r1120.2) then
                bif (decide (r1153.1 < (9223372036854775808 : Int))) then
                  let x1181 : Int := (IntKind.wrap .i64 r1153.1)
                  some (x1181, true)
                else
                  some ((0 : Int), false)
              else
                some ((0 : Int), false)
          else
            bif (!r1120.2) then
              bif (decide (r1153.1 < (9223372036854775808 : Int))) then
                let x1182 : Int := (IntKind.wrap .i64 r1153.1)
                some (x1182, true)
              else
                some ((0 : Int), false)
            else
              some ((0 : Int), false)

noncomputable def k66_0 : List (Known Try.prog E) := [Known.of envOk [9] [(.agg [.keep, .keep])] v68_0 F68_0 w68_0 ok68_0, Known.of envOk [1, 1, 1] [.keep, .keep, .keep] v69_0 F69_0 w69_0 ok69_0]
noncomputable def L66_0 (n id : Nat) (st : St G) : Option (Int × Bool) := none
set_option maxRecDepth 100000 in
theorem e66_0 (n : Nat) (v : (Int × Int) × Int) : ev Try.prog E (oracle k66_0) Try.f66.ntmps (fun x => mem x []) (L66_0 n) (finA Try.prog E Try.f66.results.toList [] w66_0.alts) 4000 [.code (Try.f66.body.getD .skip)] (argSt (v66_0.enc v)) = F66_0 v := by kernel_rfl
theorem ok66_0 : FnOk Try.prog E 66 v66_0.enc F66_0 w66_0.enc :=
  fn_known (fn := Try.f66) (c := (Try.f66.body.getD .skip)) Try.func66 (by kernel_rfl) rfl envOk (oracle_ok k66_0) mixed v66_0 F66_0 w66_0 [] [] 4000 L66_0 (by kernel_rfl)
    (fun _ h => nomatch h) (fun v _ h => ⟨0, (e66_0 _ v).trans h⟩) (fun _ => by kernel_rfl) (fun _ => by kernel_rfl) (fun _ _ => by kernel_rfl)
/- (*chicane/fx.M).Div -/
abbrev A60_0 : Type := (Int × Int) × Bool
abbrev R60_0 : Type := Int × Bool
def v60_0 : Pk G ((Int × Int) × Bool) := (pk (Sh.snd (Sh.cons (Sh.ptr 0 0) (Sh.cons (Sh.int .i64) (Sh.fst (Sh.cons (Sh.int .i64) Sh.nil))))) (Sh.fst (Sh.hfix 0 83 (Sh.fst (Sh.cons Sh.bool Sh.nil)) Sh.hnil)))
def w60_0 : Wk G (Int × Bool) := (Wk.one [.keep] (pk (Sh.fst (Sh.cons (Sh.int .i64) Sh.nil)) (Sh.fst (Sh.hfix 0 83 (Sh.fst (Sh.cons Sh.bool Sh.nil)) Sh.hnil))))
def F60_0 (v : (Int × Int) × Bool) : Option (Int × Bool) :=
  bif (v.1.2 == (0 : Int)) then
    (F65_0 (v.1.1, v.2)).bind fun r1191 =>
    some (r1191)
  else
    let x1192 : Int := (Int.fdiv v.1.1 (2 ^ 32))
    let x1193 : Int := (IntKind.wrap .u64 v.1.1)
    let x1194 : Int := (IntKind.wrap .u64 (x1193 * 2 ^ 32))
    (F66_0 ((x1192, x1194), v.1.2)).bind fun r1195 =>
    bif (!r1195.2) then
      (F67_0 ((!((decide (v.1.1 < (0 : Int))) == (decide (v.1.2 < (0 : Int))))), v.2)).bind fun r1196 =>
      some (r1196)
    else
      some (r1195.1, v.2)

noncomputable def k60_0 : List (Known Try.prog E) := [Known.of envOk [5, 1] [(.ptr 0 0 83 [.keep]), .keep] v65_0 F65_0 w65_0 ok65_0, Known.of envOk [9, 1] [(.agg [.keep, .keep]), .keep] v66_0 F66_0 w66_0 ok66_0, Known.of envOk [5, 2] [(.ptr 0 0 83 [.keep]), .keep] v67_0 F67_0 w67_0 ok67_0]
noncomputable def L60_0 (n id : Nat) (st : St G) : Option (Int × Bool) := none
set_option maxRecDepth 100000 in
theorem e60_0 (n : Nat) (v : (Int × Int) × Bool) : ev Try.prog E (oracle k60_0) Try.f60.ntmps (fun x => mem x []) (L60_0 n) (finA Try.prog E Try.f60.results.toList [(.ptr 0 0 83 [.keep])] w60_0.alts) 4000 [.code (Try.f60.body.getD .skip)] (argSt (v60_0.enc v)) = F60_0 v := by kernel_rfl
theorem ok60_0 : FnOk Try.prog E 60 v60_0.enc F60_0 w60_0.enc :=
  fn_known (fn := Try.f60) (c := (Try.f60.body.getD .skip)) Try.func60 (by kernel_rfl) rfl envOk (oracle_ok k60_0) mixed v60_0 F60_0 w60_0 [(.ptr 0 0 83 [.keep])] [] 4000 L60_0 (by kernel_rfl)
    (fun _ h => nomatch h) (fun v _ h => ⟨0, (e60_0 _ v).trans h⟩) (fun _ => by kernel_rfl) (fun _ => by kernel_rfl) (fun _ _ => by kernel_rfl)
/- (*chicane/fx.M).Ratio -/
abbrev A58_0 : Type := (Int × Int) × Bool
abbrev R58_0 : Type := Int × Bool
def v58_0 : Pk G ((Int × Int) × Bool) := (pk (Sh.snd (Sh.cons (Sh.ptr 0 0) (Sh.cons (Sh.int .i64) (Sh.fst (Sh.cons (Sh.int .i64) Sh.nil))))) (Sh.fst (Sh.hfix 0 83 (Sh.fst (Sh.cons Sh.bool Sh.nil)) Sh.hnil)))
def w58_0 : Wk G (Int × Bool) := (Wk.one [.keep] (pk (Sh.fst (Sh.cons (Sh.int .i64) Sh.nil)) (Sh.fst (Sh.hfix 0 83 (Sh.fst (Sh.cons Sh.bool Sh.nil)) Sh.hnil))))
def F58_0 (v : (Int × Int) × Bool) : Option (Int × Bool) :=
  (F60_0 v).bind fun r1199 =>
  some (r1199)

noncomputable def k58_0 : List (Known Try.prog E) := [Known.of envOk [5, 1, 1] [(.ptr 0 0 83 [.keep]), .keep, .keep] v60_0 F60_0 w60_0 ok60_0]
noncomputable def L58_0 (n id : Nat) (st : St G) : Option (Int × Bool) := none
set_option maxRecDepth 100000 in
theorem e58_0 (n : Nat) (v : (Int × Int) × Bool) : ev Try.prog E (oracle k58_0) Try.f58.ntmps (fun x => mem x []) (L58_0 n) (finA Try.prog E Try.f58.results.toList [(.ptr 0 0 83 [.keep])] w58_0.alts) 4000 [.code (Try.f58.body.getD .skip)] (argSt (v58_0.enc v)) = F58_0 v := by kernel_rfl
theorem ok58_0 : FnOk Try.prog E 58 v58_0.enc F58_0 w58_0.enc :=
  fn_known (fn := Try.f58) (c := (Try.f58.body.getD .skip)) Try.func58 (by kernel_rfl) rfl envOk (oracle_ok k58_0) mixed v58_0 F58_0 w58_0 [(.ptr 0 0 83 [.keep])] [] 4000 L58_0 (by kernel_rfl)
    (fun _ h => nomatch h) (fun v _ h => ⟨0, (e58_0 _ v).trans h⟩) (fun _ => by kernel_rfl) (fun _ => by kernel_rfl) (fun _ _ => by kernel_rfl)
/- chicane/control.ratio -/
abbrev A42_0 : Type := Int × Int
abbrev R42_0 : Type := Int
def v42_0 : Pk G (Int × Int) := (Pk.fst (pk (Sh.cons (Sh.int .i64) (Sh.fst (Sh.cons (Sh.int .i64) Sh.nil))) Sh.hnil))
def w42_0 : Wk G Int := (Wk.one [.keep] (Pk.fst (pk (Sh.fst (Sh.cons (Sh.int .i64) Sh.nil)) Sh.hnil)))
def F42_0 (v : Int × Int) : Option Int :=
  (F58_0 (v, false)).bind fun r1202 =>
  some (r1202.1)

noncomputable def k42_0 : List (Known Try.prog E) := [Known.of envOk [5, 1, 1] [(.ptr 0 0 83 [.keep]), .keep, .keep] v58_0 F58_0 w58_0 ok58_0]
noncomputable def L42_0 (n id : Nat) (st : St G) : Option Int := none
set_option maxRecDepth 100000 in
theorem e42_0 (n : Nat) (v : Int × Int) : ev Try.prog E (oracle k42_0) Try.f42.ntmps (fun x => mem x []) (L42_0 n) (finA Try.prog E Try.f42.results.toList [] w42_0.alts) 4000 [.code (Try.f42.body.getD .skip)] (argSt (v42_0.enc v)) = F42_0 v := by kernel_rfl
theorem ok42_0 : FnOk Try.prog E 42 v42_0.enc F42_0 w42_0.enc :=
  fn_known (fn := Try.f42) (c := (Try.f42.body.getD .skip)) Try.func42 (by kernel_rfl) rfl envOk (oracle_ok k42_0) mixed v42_0 F42_0 w42_0 [] [] 4000 L42_0 (by kernel_rfl)
    (fun _ h => nomatch h) (fun v _ h => ⟨0, (e42_0 _ v).trans h⟩) (fun _ => by kernel_rfl) (fun _ => by kernel_rfl) (fun _ _ => by kernel_rfl)
/- chicane/control.Part -/
abbrev A16_0 : Type := Int
abbrev R16_0 : Type := Int
def v16_0 : Pk G Int := (Pk.fst (pk (Sh.fst (Sh.cons (Sh.int .i64) Sh.nil)) Sh.hnil))
def w16_0 : Wk G Int := (Wk.one [.keep] (Pk.fst (pk (Sh.fst (Sh.cons (Sh.int .i64) Sh.nil)) Sh.hnil)))
def F16_0 (v : Int) : Option Int :=
  let x1207 : Int := (if (0 : Int) > v then (0 : Int) else v)
  let x1208 : Int := (if (255 : Int) < x1207 then (255 : Int) else x1207)
  (F42_0 (x1208, (255 : Int))).bind fun r1209 =>
  some (r1209)

noncomputable def k16_0 : List (Known Try.prog E) := [Known.of envOk [1, 1] [.keep, .keep] v42_0 F42_0 w42_0 ok42_0]
noncomputable def L16_0 (n id : Nat) (st : St G) : Option Int := none
set_option maxRecDepth 100000 in
theorem e16_0 (n : Nat) (v : Int) : ev Try.prog E (oracle k16_0) Try.f16.ntmps (fun x => mem x []) (L16_0 n) (finA Try.prog E Try.f16.results.toList [] w16_0.alts) 4000 [.code (Try.f16.body.getD .skip)] (argSt (v16_0.enc v)) = F16_0 v := by kernel_rfl
theorem ok16_0 : FnOk Try.prog E 16 v16_0.enc F16_0 w16_0.enc :=
  fn_known (fn := Try.f16) (c := (Try.f16.body.getD .skip)) Try.func16 (by kernel_rfl) rfl envOk (oracle_ok k16_0) mixed v16_0 F16_0 w16_0 [] [] 4000 L16_0 (by kernel_rfl)
    (fun _ h => nomatch h) (fun v _ h => ⟨0, (e16_0 _ v).trans h⟩) (fun _ => by kernel_rfl) (fun _ => by kernel_rfl) (fun _ _ => by kernel_rfl)
/- chicane/control.Lean -/
abbrev A18_0 : Type := Int
abbrev R18_0 : Type := Int
def v18_0 : Pk G Int := (Pk.fst (pk (Sh.fst (Sh.cons (Sh.int .i64) Sh.nil)) Sh.hnil))
def w18_0 : Wk G Int := (Wk.one [.keep] (Pk.fst (pk (Sh.fst (Sh.cons (Sh.int .i64) Sh.nil)) Sh.hnil)))
def F18_0 (v : Int) : Option Int :=
  let x1217 : Int := (if (-127 : Int) > v then (-127 : Int) else v)
  let x1218 : Int := (if (127 : Int) < x1217 then (127 : Int) else x1217)
  (F42_0 (x1218, (127 : Int))).bind fun r1219 =>
  some (r1219)

noncomputable def k18_0 : List (Known Try.prog E) := [Known.of envOk [1, 1] [.keep, .keep] v42_0 F42_0 w42_0 ok42_0]
noncomputable def L18_0 (n id : Nat) (st : St G) : Option Int := none
set_option maxRecDepth 100000 in
theorem e18_0 (n : Nat) (v : Int) : ev Try.prog E (oracle k18_0) Try.f18.ntmps (fun x => mem x []) (L18_0 n) (finA Try.prog E Try.f18.results.toList [] w18_0.alts) 4000 [.code (Try.f18.body.getD .skip)] (argSt (v18_0.enc v)) = F18_0 v := by kernel_rfl
theorem ok18_0 : FnOk Try.prog E 18 v18_0.enc F18_0 w18_0.enc :=
  fn_known (fn := Try.f18) (c := (Try.f18.body.getD .skip)) Try.func18 (by kernel_rfl) rfl envOk (oracle_ok k18_0) mixed v18_0 F18_0 w18_0 [] [] 4000 L18_0 (by kernel_rfl)
    (fun _ h => nomatch h) (fun v _ h => ⟨0, (e18_0 _ v).trans h⟩) (fun _ => by kernel_rfl) (fun _ => by kernel_rfl) (fun _ _ => by kernel_rfl)
/- chicane/chicanelaw19.awake -/
abbrev A12_0 : Type := Unit
abbrev R12_0 : Type := Bool
def v12_0 : Pk G Unit := (Pk.snd (pk Sh.nil Sh.hnil))
def w12_0 : Wk G Bool := (Wk.one [.keep] (Pk.fst (pk (Sh.fst (Sh.cons Sh.bool Sh.nil)) Sh.hnil)))
def F12_0 (v : Unit) : Option Bool :=
  (F8_0 ([] : List (Int × Int × Int × Int × Int × Bool × Bool))).bind fun r1226 =>
  (F13_0 r1226.2).bind fun r1227 =>
  (F8_0 ([((256 : Int), ((0 : Int), ((0 : Int), ((0 : Int), ((0 : Int), (false, false))))))] : List (Int × Int × Int × Int × Int × Bool × Bool))).bind fun r1228 =>
  bif (((r1226.2).length : Int) == (12 : Int)) then
    bif (r1226.1 == (0 : Int)) then
      bif (r1227.1.1 == (0 : Int)) then
        bif (((r1227.2).length : Int) == (0 : Int)) then
          bif (r1228.1 == (40 : Int)) then
            (F16_0 (255 : Int)).bind fun r1229 =>
            bif (r1229 == (4294967296 : Int)) then
              (F18_0 (-127 : Int)).bind fun r1230 =>
              some (r1230 == (-4294967296 : Int))
            else
              some (false)
          else
            some (false)
        else
          some (false)
      else
        some (false)
    else
      some (false)
  else
    some (false)

noncomputable def k12_0 : List (Known Try.prog E) := [Known.of envOk [7] [(.ros 29)] v8_0 F8_0 w8_0 ok8_0, Known.of envOk [7] [(.ros 5)] v13_0 F13_0 w13_0 ok13_0, Known.of envOk [1] [.keep] v16_0 F16_0 w16_0 ok16_0, Known.of envOk [1] [.keep] v18_0 F18_0 w18_0 ok18_0]
noncomputable def L12_0 (n id : Nat) (st : St G) : Option Bool := none
set_option maxRecDepth 100000 in
theorem e12_0 (n : Nat) (v : Unit) : ev Try.prog E (oracle k12_0) Try.f12.ntmps (fun x => mem x []) (L12_0 n) (finA Try.prog E Try.f12.results.toList [] w12_0.alts) 4000 [.code (Try.f12.body.getD .skip)] (argSt (v12_0.enc v)) = F12_0 v := by kernel_rfl
theorem ok12_0 : FnOk Try.prog E 12 v12_0.enc F12_0 w12_0.enc :=
  fn_known (fn := Try.f12) (c := (Try.f12.body.getD .skip)) Try.func12 (by kernel_rfl) rfl envOk (oracle_ok k12_0) mixed v12_0 F12_0 w12_0 [] [] 4000 L12_0 (by kernel_rfl)
    (fun _ h => nomatch h) (fun v _ h => ⟨0, (e12_0 _ v).trans h⟩) (fun _ => by kernel_rfl) (fun _ => by kernel_rfl) (fun _ _ => by kernel_rfl)
/- chicane/chicanelaw19.ControlEncode -/
abbrev A3_0 : Type := List (Int × Int × Int × Int × Int × Bool × Bool)
abbrev R3_0 : Type := Bool
def v3_0 : Pk G (List (Int × Int × Int × Int × Int × Bool × Bool)) := (Pk.fst (pk (Sh.fst (Sh.cons (Sh.ros 29) Sh.nil)) Sh.hnil))
def w3_0 : Wk G Bool := (Wk.one [.keep] (Pk.fst (pk (Sh.fst (Sh.cons Sh.bool Sh.nil)) Sh.hnil)))
def c3_0_6 : Pk G (((List (Int × Int × Int × Int × Int × Bool × Bool)) × Int × Int × Int) × List Int × List Int) := (pk (Sh.cons (Sh.ros 29) (Sh.snd (Sh.cons (Sh.osl 0) (Sh.cons (Sh.int .i64) (Sh.snd (Sh.cons (Sh.osl 1) (Sh.cons (Sh.int .i64) (Sh.fst (Sh.cons (Sh.int .i64) Sh.nil))))))))) (Sh.hrow 1 5 (Sh.fst (Sh.hrow 0 5 Sh.hnil))))
def B3_0_6 (K : ((((List (Int × Int × Int × Int × Int × Bool × Bool)) × Int × Int × Int) × List Int × List Int) → Option Bool)) (v : ((List (Int × Int × Int × Int × Int × Bool × Bool)) × Int × Int × Int) × List Int × List Int) : Option Bool :=
  bif (decide (v.1.2.2.2 < ((v.1.1).length : Int))) then
    (rdx v.1.1 v.1.2.2.2).bind fun (x1245 : Int × Int × Int × Int × Int × Bool × Bool) =>
    (F10_0 x1245).bind fun r1246 =>
    (rdx v.1.1 v.1.2.2.2).bind fun (x1247 : Int × Int × Int × Int × Int × Bool × Bool) =>
    (F11_0 x1247).bind fun r1248 =>
    bif (r1246 != r1248) then
      some (false)
    else
      let x1249 : Int := (IntKind.wrap .i64 (v.1.2.2.2 + (1 : Int)))
      K ((v.1.1, (v.1.2.1, (v.1.2.2.1, x1249))), v.2)
  else
    (strOf (E.enc 5) v.2.2).bind fun (x1250 : List UInt8) =>
    (strOf (E.enc 5) v.2.1).bind fun (x1251 : List UInt8) =>
    bif ((⟨x1250.toArray⟩ : ByteArray) == (⟨x1251.toArray⟩ : ByteArray)) then
      bif (v.1.2.1 == v.1.2.2.1) then
        (F12_0 ()).bind fun r1252 =>
        some (r1252)
      else
        some (false)
    else
      some (false)

def E3_0 (K : ((((List (Int × Int × Int × Int × Int × Bool × Bool)) × Int × Int × Int) × List Int × List Int) → Option Bool)) (v : List (Int × Int × Int × Int × Int × Bool × Bool)) : Option Bool :=
  bif (decide (((v).length : Int) > (500 : Int))) then
    some (true)
  else
    (F8_0 v).bind fun r1243 =>
    (F9_0 v).bind fun r1244 =>
    K ((v, (r1243.1, (r1244.1, (0 : Int)))), (r1244.2, r1243.2))

def K3_0 : Nat → ((((List (Int × Int × Int × Int × Int × Bool × Bool)) × Int × Int × Int) × List Int × List Int) → Option Bool)
  | 0 => (fun _ => none)
  | n + 1 => (B3_0_6 (K3_0 n))
def fuel3_0 (v : List (Int × Int × Int × Int × Int × Bool × Bool)) : Nat := 1000
def F3_0 (v : List (Int × Int × Int × Int × Int × Bool × Bool)) : Option Bool := E3_0 (K3_0 (fuel3_0 v)) v
noncomputable def k3_0 : List (Known Try.prog E) := [Known.of envOk [7] [(.ros 29)] v8_0 F8_0 w8_0 ok8_0, Known.of envOk [7] [(.ros 29)] v9_0 F9_0 w9_0 ok9_0, Known.of envOk [9] [(.agg [.keep, .keep, .keep, .keep, .keep, .keep, .keep])] v10_0 F10_0 w10_0 ok10_0, Known.of envOk [9] [(.agg [.keep, .keep, .keep, .keep, .keep, .keep, .keep])] v11_0 F11_0 w11_0 ok11_0, Known.of envOk [] [] v12_0 F12_0 w12_0 ok12_0]
def s3_0_6 : List (Nat × Pat) := [(0, (.ros 29)), (3, (.own 0 5)), (4, .keep), (5, (.own 1 5)), (6, .keep), (7, .keep)]
noncomputable def L3_0 (n id : Nat) (st : St G) : Option Bool := match Nat.beq id 6 with | true => cutK Try.prog s3_0_6 [] c3_0_6.dec (K3_0 n) st | false => none
set_option maxRecDepth 100000 in
theorem e3_0 (n : Nat) (v : List (Int × Int × Int × Int × Int × Bool × Bool)) : ev Try.prog E (oracle k3_0) Try.f3.ntmps (fun x => mem x [6]) (L3_0 n) (finA Try.prog E Try.f3.results.toList [] w3_0.alts) 4000 [.code (Try.f3.body.getD .skip)] (argSt (v3_0.enc v)) = E3_0 (K3_0 n) v := by kernel_rfl
set_option maxRecDepth 100000 in
theorem b3_0_6 (n : Nat) (v : ((List (Int × Int × Int × Int × Int × Bool × Bool)) × Int × Int × Int) × List Int × List Int) : evCut Try.prog E (oracle k3_0) Try.f3.ntmps (fun x => mem x [6]) (L3_0 n) (finA Try.prog E Try.f3.results.toList [] w3_0.alts) 4000 (todoAt (Try.f3.body.getD .skip) 6) (cutSt s3_0_6 (c3_0_6.enc v)) = B3_0_6 (K3_0 n) v := by kernel_rfl
theorem ok3_0 : FnOk Try.prog E 3 v3_0.enc F3_0 w3_0.enc :=
  fn_known (fn := Try.f3) (c := (Try.f3.body.getD .skip)) Try.func3 (by kernel_rfl) rfl envOk (oracle_ok k3_0) mixed v3_0 F3_0 w3_0 [] [6] 4000 L3_0 (by kernel_rfl)
    (List.forall_mem_cons.2 ⟨⟨_, s3_0_6, c3_0_6.dec, c3_0_6.enc, fun n => (K3_0 n), c3_0_6.ok, fun _ _ => rfl, fun _ => rfl, fun n v _ h => (b3_0_6 n v).trans h⟩, fun _ h => (nomatch h)⟩) (fun v _ h => ⟨fuel3_0 v, (e3_0 _ v).trans h⟩) (fun _ => by kernel_rfl) (fun _ => by kernel_rfl) (fun _ _ => by kernel_rfl)
/- (*chicane/chicaneref10.In).fail -/
abbrev A57_0 : Type := (Int × Int) × List Int × Int × Int × Int × Int
abbrev R57_0 : Type := List Int × Int × Int × Int × Int
def v57_0 : Pk G ((Int × Int) × List Int × Int × Int × Int × Int) := (pk (Sh.snd (Sh.cons (Sh.ptr 0 0) (Sh.cons (Sh.int .i64) (Sh.fst (Sh.cons (Sh.int .i64) Sh.nil))))) (Sh.fst (Sh.hfix 0 59 (Sh.cons (Sh.ros 5) (Sh.cons (Sh.int .i64) (Sh.cons (Sh.int .i64) (Sh.cons (Sh.int .i64) (Sh.fst (Sh.cons (Sh.int .i64) Sh.nil)))))) Sh.hnil)))
def w57_0 : Wk G (List Int × Int × Int × Int × Int) := (Wk.one [] (Pk.snd (pk Sh.nil (Sh.fst (Sh.hfix 0 59 (Sh.cons (Sh.ros 5) (Sh.cons (Sh.int .i64) (Sh.cons (Sh.int .i64) (Sh.cons (Sh.int .i64) (Sh.fst (Sh.cons (Sh.int .i64) Sh.nil)))))) Sh.hnil)))))
def F57_0 (v : (Int × Int) × List Int × Int × Int × Int × Int) : Option (List Int × Int × Int × Int × Int) :=
  bif (v.2.2.2.2.1 == (0 : Int)) then
    some (v.2.1, (v.2.2.1, (v.2.2.2.1, v.1)))
  else
    some (v.2)

noncomputable def k57_0 : List (Known Try.prog E) := []
noncomputable def L57_0 (n id : Nat) (st : St G) : Option (List Int × Int × Int × Int × Int) := none
set_option maxRecDepth 100000 in
theorem e57_0 (n : Nat) (v : (Int × Int) × List Int × Int × Int × Int × Int) : ev Try.prog E (oracle k57_0) Try.f57.ntmps (fun x => mem x []) (L57_0 n) (finA Try.prog E Try.f57.results.toList [(.ptr 0 0 59 [(.ros 5), .keep, .keep, .keep, .keep])] w57_0.alts) 4000 [.code (Try.f57.body.getD .skip)] (argSt (v57_0.enc v)) = F57_0 v := by kernel_rfl
theorem ok57_0 : FnOk Try.prog E 57 v57_0.enc F57_0 w57_0.enc :=
  fn_known (fn := Try.f57) (c := (Try.f57.body.getD .skip)) Try.func57 (by kernel_rfl) rfl envOk (oracle_ok k57_0) mixed v57_0 F57_0 w57_0 [(.ptr 0 0 59 [(.ros 5), .keep, .keep, .keep, .keep])] [] 4000 L57_0 (by kernel_rfl)
    (fun _ h => nomatch h) (fun v _ h => ⟨0, (e57_0 _ v).trans h⟩) (fun _ => by kernel_rfl) (fun _ => by kernel_rfl) (fun _ _ => by kernel_rfl)
/- (*chicane/chicaneref10.In).word -/
abbrev A56_0 : Type := Int × List Int × Int × Int × Int × Int
abbrev R56_0 : Type := (List Int × Bool) × List Int × Int × Int × Int × Int
def v56_0 : Pk G (Int × List Int × Int × Int × Int × Int) := (pk (Sh.snd (Sh.cons (Sh.ptr 0 0) (Sh.fst (Sh.cons (Sh.int .i64) Sh.nil)))) (Sh.fst (Sh.hfix 0 59 (Sh.cons (Sh.ros 5) (Sh.cons (Sh.int .i64) (Sh.cons (Sh.int .i64) (Sh.cons (Sh.int .i64) (Sh.fst (Sh.cons (Sh.int .i64) Sh.nil)))))) Sh.hnil)))
def w56_0 : Wk G ((List Int × Bool) × List Int × Int × Int × Int × Int) := (Wk.one [(.ros 5), .keep] (pk (Sh.cons (Sh.ros 5) (Sh.fst (Sh.cons Sh.bool Sh.nil))) (Sh.fst (Sh.hfix 0 59 (Sh.cons (Sh.ros 5) (Sh.cons (Sh.int .i64) (Sh.cons (Sh.int .i64) (Sh.cons (Sh.int .i64) (Sh.fst (Sh.cons (Sh.int .i64) Sh.nil)))))) Sh.hnil))))
def F56_0 (v : Int × List Int × Int × Int × Int × Int) : Option ((List Int × Bool) × List Int × Int × Int × Int × Int) :=
  bif (v.2.2.2.2.1 != (0 : Int)) then
    some ((([] : List Int), false), v.2)
  else
    let x1263 : Int := (IntKind.wrap .i64 (((v.2.1).length : Int) - v.2.2.1))
    bif (decide (x1263 < v.1)) then
      (F57_0 (((20 : Int), ((v.2.1).length : Int)), v.2)).bind fun r1264 =>
      some ((([] : List Int), false), r1264)
    else
      let x1265 : Int := (IntKind.wrap .i64 (v.2.2.1 + v.1))
      (cutx v.2.1 v.2.2.1 x1265).bind fun (x1266 : List Int) =>
      some ((x1266, true), (v.2.1, (x1265, (v.2.2.1, v.2.2.2.2))))

noncomputable def k56_0 : List (Known Try.prog E) := [Known.of envOk [5, 1, 1] [(.ptr 0 0 59 [(.ros 5), .keep, .keep, .keep, .keep]), .keep, .keep] v57_0 F57_0 w57_0 ok57_0]
noncomputable def L56_0 (n id : Nat) (st : St G) : Option ((List Int × Bool) × List Int × Int × Int × Int × Int) := none
set_option maxRecDepth 100000 in
theorem e56_0 (n : Nat) (v : Int × List Int × Int × Int × Int × Int) : ev Try.prog E (oracle k56_0) Try.f56.ntmps (fun x => mem x []) (L56_0 n) (finA Try.prog E Try.f56.results.toList [(.ptr 0 0 59 [(.ros 5), .keep, .keep, .keep, .keep])] w56_0.alts) 4000 [.code (Try.f56.body.getD .skip)] (argSt (v56_0.enc v)) = F56_0 v := by kernel_rfl
theorem ok56_0 : FnOk Try.prog E 56 v56_0.enc F56_0 w56_0.enc :=
  fn_known (fn := Try.f56) (c := (Try.f56.body.getD .skip)) Try.func56 (by kernel_rfl) rfl envOk (oracle_ok k56_0) mixed v56_0 F56_0 w56_0 [(.ptr 0 0 59 [(.ros 5), .keep, .keep, .keep, .keep])] [] 4000 L56_0 (by kernel_rfl)
    (fun _ h => nomatch h) (fun v _ h => ⟨0, (e56_0 _ v).trans h⟩) (fun _ => by kernel_rfl) (fun _ => by kernel_rfl) (fun _ _ => by kernel_rfl)
/- (*chicane/chicaneref10.In).Mark -/
abbrev A36_0 : Type := ByteArray × List Int × Int × Int × Int × Int
abbrev R36_0 : Type := List Int × Int × Int × Int × Int
def v36_0 : Pk G (ByteArray × List Int × Int × Int × Int × Int) := (pk (Sh.snd (Sh.cons (Sh.ptr 0 0) (Sh.fst (Sh.cons Sh.str Sh.nil)))) (Sh.fst (Sh.hfix 0 59 (Sh.cons (Sh.ros 5) (Sh.cons (Sh.int .i64) (Sh.cons (Sh.int .i64) (Sh.cons (Sh.int .i64) (Sh.fst (Sh.cons (Sh.int .i64) Sh.nil)))))) Sh.hnil)))
def w36_0 : Wk G (List Int × Int × Int × Int × Int) := (Wk.one [] (Pk.snd (pk Sh.nil (Sh.fst (Sh.hfix 0 59 (Sh.cons (Sh.ros 5) (Sh.cons (Sh.int .i64) (Sh.cons (Sh.int .i64) (Sh.cons (Sh.int .i64) (Sh.fst (Sh.cons (Sh.int .i64) Sh.nil)))))) Sh.hnil)))))
def F36_0 (v : ByteArray × List Int × Int × Int × Int × Int) : Option (List Int × Int × Int × Int × Int) :=
  (F56_0 ((4 : Int), v.2)).bind fun r1277 =>
  bif r1277.1.2 then
    (strOf (E.enc 5) r1277.1.1).bind fun (x1278 : List UInt8) =>
    (F24_0 v.1).bind fun r1279 =>
    (strOf (E.enc 5) r1279).bind fun (x1280 : List UInt8) =>
    bif (!((⟨x1278.toArray⟩ : ByteArray) == (⟨x1280.toArray⟩ : ByteArray))) then
      (F57_0 (((21 : Int), r1277.2.2.2.1), r1277.2)).bind fun r1281 =>
      some (r1281)
    else
      some (r1277.2)
  else
    some (r1277.2)

noncomputable def k36_0 : List (Known Try.prog E) := [Known.of envOk [5, 1] [(.ptr 0 0 59 [(.ros 5), .keep, .keep, .keep, .keep]), .keep] v56_0 F56_0 w56_0 ok56_0, Known.of envOk [3] [.keep] v24_0 F24_0 w24_0 ok24_0, Known.of envOk [5, 1, 1] [(.ptr 0 0 59 [(.ros 5), .keep, .keep, .keep, .keep]), .keep, .keep] v57_0 F57_0 w57_0 ok57_0]
noncomputable def L36_0 (n id : Nat) (st : St G) : Option (List Int × Int × Int × Int × Int) := none
set_option maxRecDepth 100000 in
theorem e36_0 (n : Nat) (v : ByteArray × List Int × Int × Int × Int × Int) : ev Try.prog E (oracle k36_0) Try.f36.ntmps (fun x => mem x []) (L36_0 n) (finA Try.prog E Try.f36.results.toList [(.ptr 0 0 59 [(.ros 5), .keep, .keep, .keep, .keep])] w36_0.alts) 4000 [.code (Try.f36.body.getD .skip)] (argSt (v36_0.enc v)) = F36_0 v := by kernel_rfl
theorem ok36_0 : FnOk Try.prog E 36 v36_0.enc F36_0 w36_0.enc :=
  fn_known (fn := Try.f36) (c := (Try.f36.body.getD .skip)) Try.func36 (by kernel_rfl) rfl envOk (oracle_ok k36_0) mixed v36_0 F36_0 w36_0 [(.ptr 0 0 59 [(.ros 5), .keep, .keep, .keep, .keep])] [] 4000 L36_0 (by kernel_rfl)
    (fun _ h => nomatch h) (fun v _ h => ⟨0, (e36_0 _ v).trans h⟩) (fun _ => by kernel_rfl) (fun _ => by kernel_rfl) (fun _ _ => by kernel_rfl)
/- (*chicane/chicaneref10.In).Num -/
abbrev A37_0 : Type := List Int × Int × Int × Int × Int
abbrev R37_0 : Type := Int × List Int × Int × Int × Int × Int
def v37_0 : Pk G (List Int × Int × Int × Int × Int) := (Pk.snd (pk (Sh.snd (Sh.cons (Sh.ptr 0 0) Sh.nil)) (Sh.fst (Sh.hfix 0 59 (Sh.cons (Sh.ros 5) (Sh.cons (Sh.int .i64) (Sh.cons (Sh.int .i64) (Sh.cons (Sh.int .i64) (Sh.fst (Sh.cons (Sh.int .i64) Sh.nil)))))) Sh.hnil))))
def w37_0 : Wk G (Int × List Int × Int × Int × Int × Int) := (Wk.one [.keep] (pk (Sh.fst (Sh.cons (Sh.int .i64) Sh.nil)) (Sh.fst (Sh.hfix 0 59 (Sh.cons (Sh.ros 5) (Sh.cons (Sh.int .i64) (Sh.cons (Sh.int .i64) (Sh.cons (Sh.int .i64) (Sh.fst (Sh.cons (Sh.int .i64) Sh.nil)))))) Sh.hnil))))
def c37_0_6 : Pk G ((List Int × Int × Int) × List Int × Int × Int × Int × Int) := (pk (Sh.cons (Sh.ros 5) (Sh.cons (Sh.int .u64) (Sh.fst (Sh.cons (Sh.int .i64) Sh.nil)))) (Sh.fst (Sh.hfix 0 59 (Sh.cons (Sh.ros 5) (Sh.cons (Sh.int .i64) (Sh.cons (Sh.int .i64) (Sh.cons (Sh.int .i64) (Sh.fst (Sh.cons (Sh.int .i64) Sh.nil)))))) Sh.hnil)))
def B37_0_6 (K : (((List Int × Int × Int) × List Int × Int × Int × Int × Int) → Option (Int × List Int × Int × Int × Int × Int))) (v : (List Int × Int × Int) × List Int × Int × Int × Int × Int) : Option (Int × List Int × Int × Int × Int × Int) :=
  bif (decide (v.1.2.2 ≥ (0 : Int))) then
    let x1300 : Int := (IntKind.wrap .u64 (v.1.2.1 * (256 : Int)))
    (rdx v.1.1 v.1.2.2).bind fun (x1301 : Int) =>
    let x1302 : Int := (IntKind.wrap .u64 x1301)
    let x1303 : Int := (IntKind.wrap .u64 (x1300 + x1302))
    let x1304 : Int := (IntKind.wrap .i64 (v.1.2.2 - (1 : Int)))
    K ((v.1.1, (x1303, x1304)), v.2)
  else
    let x1305 : Int := (IntKind.wrap .i64 v.1.2.1)
    some (x1305, v.2)

def E37_0 (K : (((List Int × Int × Int) × List Int × Int × Int × Int × Int) → Option (Int × List Int × Int × Int × Int × Int))) (v : List Int × Int × Int × Int × Int) : Option (Int × List Int × Int × Int × Int × Int) :=
  (F56_0 ((8 : Int), v)).bind fun r1299 =>
  bif (!r1299.1.2) then
    some ((0 : Int), r1299.2)
  else
    K ((r1299.1.1, ((0 : Int), (7 : Int))), r1299.2)

def K37_0 : Nat → (((List Int × Int × Int) × List Int × Int × Int × Int × Int) → Option (Int × List Int × Int × Int × Int × Int))
  | 0 => (fun _ => none)
  | n + 1 => (B37_0_6 (K37_0 n))
def fuel37_0 (v : List Int × Int × Int × Int × Int) : Nat := 1000
def F37_0 (v : List Int × Int × Int × Int × Int) : Option (Int × List Int × Int × Int × Int × Int) := E37_0 (K37_0 (fuel37_0 v)) v
noncomputable def k37_0 : List (Known Try.prog E) := [Known.of envOk [5, 1] [(.ptr 0 0 59 [(.ros 5), .keep, .keep, .keep, .keep]), .keep] v56_0 F56_0 w56_0 ok56_0]
def s37_0_6 : List (Nat × Pat) := [(3, (.ros 5)), (5, .keep), (6, .keep)]
noncomputable def L37_0 (n id : Nat) (st : St G) : Option (Int × List Int × Int × Int × Int × Int) := match Nat.beq id 6 with | true => cutK Try.prog s37_0_6 [(.ptr 0 0 59 [(.ros 5), .keep, .keep, .keep, .keep])] c37_0_6.dec (K37_0 n) st | false => none
set_option maxRecDepth 100000 in
theorem e37_0 (n : Nat) (v : List Int × Int × Int × Int × Int) : ev Try.prog E (oracle k37_0) Try.f37.ntmps (fun x => mem x [6]) (L37_0 n) (finA Try.prog E Try.f37.results.toList [(.ptr 0 0 59 [(.ros 5), .keep, .keep, .keep, .keep])] w37_0.alts) 4000 [.code (Try.f37.body.getD .skip)] (argSt (v37_0.enc v)) = E37_0 (K37_0 n) v := by kernel_rfl
set_option maxRecDepth 100000 in
theorem b37_0_6 (n : Nat) (v : (List Int × Int × Int) × List Int × Int × Int × Int × Int) : evCut Try.prog E (oracle k37_0) Try.f37.ntmps (fun x => mem x [6]) (L37_0 n) (finA Try.prog E Try.f37.results.toList [(.ptr 0 0 59 [(.ros 5), .keep, .keep, .keep, .keep])] w37_0.alts) 4000 (todoAt (Try.f37.body.getD .skip) 6) (cutSt s37_0_6 (c37_0_6.enc v)) = B37_0_6 (K37_0 n) v := by kernel_rfl
theorem ok37_0 : FnOk Try.prog E 37 v37_0.enc F37_0 w37_0.enc :=
  fn_known (fn := Try.f37) (c := (Try.f37.body.getD .skip)) Try.func37 (by kernel_rfl) rfl envOk (oracle_ok k37_0) mixed v37_0 F37_0 w37_0 [(.ptr 0 0 59 [(.ros 5), .keep, .keep, .keep, .keep])] [6] 4000 L37_0 (by kernel_rfl)
    (List.forall_mem_cons.2 ⟨⟨_, s37_0_6, c37_0_6.dec, c37_0_6.enc, fun n => (K37_0 n), c37_0_6.ok, fun _ _ => rfl, fun _ => rfl, fun n v _ h => (b37_0_6 n v).trans h⟩, fun _ h => (nomatch h)⟩) (fun v _ h => ⟨fuel37_0 v, (e37_0 _ v).trans h⟩) (fun _ => by kernel_rfl) (fun _ => by kernel_rfl) (fun _ _ => by kernel_rfl)
/- (*chicane/chicaneref10.In).Refuse -/
abbrev A38_0 : Type := Int × List Int × Int × Int × Int × Int
abbrev R38_0 : Type := List Int × Int × Int × Int × Int
def v38_0 : Pk G (Int × List Int × Int × Int × Int × Int) := (pk (Sh.snd (Sh.cons (Sh.ptr 0 0) (Sh.fst (Sh.cons (Sh.int .i64) Sh.nil)))) (Sh.fst (Sh.hfix 0 59 (Sh.cons (Sh.ros 5) (Sh.cons (Sh.int .i64) (Sh.cons (Sh.int .i64) (Sh.cons (Sh.int .i64) (Sh.fst (Sh.cons (Sh.int .i64) Sh.nil)))))) Sh.hnil)))
def w38_0 : Wk G (List Int × Int × Int × Int × Int) := (Wk.one [] (Pk.snd (pk Sh.nil (Sh.fst (Sh.hfix 0 59 (Sh.cons (Sh.ros 5) (Sh.cons (Sh.int .i64) (Sh.cons (Sh.int .i64) (Sh.cons (Sh.int .i64) (Sh.fst (Sh.cons (Sh.int .i64) Sh.nil)))))) Sh.hnil)))))
def F38_0 (v : Int × List Int × Int × Int × Int × Int) : Option (List Int × Int × Int × Int × Int) :=
  bif (v.1 == (0 : Int)) then
    (F57_0 (((1 : Int), v.2.2.2.1), v.2)).bind fun r1311 =>
    some (r1311)
  else
    (F57_0 ((v.1, v.2.2.2.1), v.2)).bind fun r1312 =>
    some (r1312)

noncomputable def k38_0 : List (Known Try.prog E) := [Known.of envOk [5, 1, 1] [(.ptr 0 0 59 [(.ros 5), .keep, .keep, .keep, .keep]), .keep, .keep] v57_0 F57_0 w57_0 ok57_0]
noncomputable def L38_0 (n id : Nat) (st : St G) : Option (List Int × Int × Int × Int × Int) := none
set_option maxRecDepth 100000 in
theorem e38_0 (n : Nat) (v : Int × List Int × Int × Int × Int × Int) : ev Try.prog E (oracle k38_0) Try.f38.ntmps (fun x => mem x []) (L38_0 n) (finA Try.prog E Try.f38.results.toList [(.ptr 0 0 59 [(.ros 5), .keep, .keep, .keep, .keep])] w38_0.alts) 4000 [.code (Try.f38.body.getD .skip)] (argSt (v38_0.enc v)) = F38_0 v := by kernel_rfl
theorem ok38_0 : FnOk Try.prog E 38 v38_0.enc F38_0 w38_0.enc :=
  fn_known (fn := Try.f38) (c := (Try.f38.body.getD .skip)) Try.func38 (by kernel_rfl) rfl envOk (oracle_ok k38_0) mixed v38_0 F38_0 w38_0 [(.ptr 0 0 59 [(.ros 5), .keep, .keep, .keep, .keep])] [] 4000 L38_0 (by kernel_rfl)
    (fun _ h => nomatch h) (fun v _ h => ⟨0, (e38_0 _ v).trans h⟩) (fun _ => by kernel_rfl) (fun _ => by kernel_rfl) (fun _ _ => by kernel_rfl)
/- (*chicane/chicaneref10.In).Count -/
abbrev A39_0 : Type := (Int × Int) × List Int × Int × Int × Int × Int
abbrev R39_0 : Type := Int × List Int × Int × Int × Int × Int
def v39_0 : Pk G ((Int × Int) × List Int × Int × Int × Int × Int) := (pk (Sh.snd (Sh.cons (Sh.ptr 0 0) (Sh.cons (Sh.int .i64) (Sh.fst (Sh.cons (Sh.int .i64) Sh.nil))))) (Sh.fst (Sh.hfix 0 59 (Sh.cons (Sh.ros 5) (Sh.cons (Sh.int .i64) (Sh.cons (Sh.int .i64) (Sh.cons (Sh.int .i64) (Sh.fst (Sh.cons (Sh.int .i64) Sh.nil)))))) Sh.hnil)))
def w39_0 : Wk G (Int × List Int × Int × Int × Int × Int) := (Wk.one [.keep] (pk (Sh.fst (Sh.cons (Sh.int .i64) Sh.nil)) (Sh.fst (Sh.hfix 0 59 (Sh.cons (Sh.ros 5) (Sh.cons (Sh.int .i64) (Sh.cons (Sh.int .i64) (Sh.cons (Sh.int .i64) (Sh.fst (Sh.cons (Sh.int .i64) Sh.nil)))))) Sh.hnil))))
def F39_0 (v : (Int × Int) × List Int × Int × Int × Int × Int) : Option (Int × List Int × Int × Int × Int × Int) :=
  (F56_0 ((2 : Int), v.2)).bind fun r1334 =>
  bif (!r1334.1.2) then
    some ((0 : Int), r1334.2)
  else
    (rdx r1334.1.1 (0 : Int)).bind fun (x1335 : Int) =>
    let x1336 : Int := (IntKind.wrap .i64 x1335)
    (rdx r1334.1.1 (1 : Int)).bind fun (x1337 : Int) =>
    let x1338 : Int := (IntKind.wrap .i64 x1337)
    let x1339 : Int := (IntKind.wrap .i64 ((256 : Int) * x1338))
    let x1340 : Int := (IntKind.wrap .i64 (x1336 + x1339))
    bif (decide (x1340 < v.1.1)) then
      (F57_0 (((22 : Int), r1334.2.2.2.1), r1334.2)).bind fun r1341 =>
      some ((0 : Int), r1341)
    else
      bif (decide (x1340 > v.1.2)) then
        (F57_0 (((22 : Int), r1334.2.2.2.1), r1334.2)).bind fun r1342 =>
        some ((0 : Int), r1342)
      else
        some (x1340, r1334.2)

noncomputable def k39_0 : List (Known Try.prog E) := [Known.of envOk [5, 1] [(.ptr 0 0 59 [(.ros 5), .keep, .keep, .keep, .keep]), .keep] v56_0 F56_0 w56_0 ok56_0, Known.of envOk [5, 1, 1] [(.ptr 0 0 59 [(.ros 5), .keep, .keep, .keep, .keep]), .keep, .keep] v57_0 F57_0 w57_0 ok57_0]
noncomputable def L39_0 (n id : Nat) (st : St G) : Option (Int × List Int × Int × Int × Int × Int) := none
set_option maxRecDepth 100000 in
theorem e39_0 (n : Nat) (v : (Int × Int) × List Int × Int × Int × Int × Int) : ev Try.prog E (oracle k39_0) Try.f39.ntmps (fun x => mem x []) (L39_0 n) (finA Try.prog E Try.f39.results.toList [(.ptr 0 0 59 [(.ros 5), .keep, .keep, .keep, .keep])] w39_0.alts) 4000 [.code (Try.f39.body.getD .skip)] (argSt (v39_0.enc v)) = F39_0 v := by kernel_rfl
theorem ok39_0 : FnOk Try.prog E 39 v39_0.enc F39_0 w39_0.enc :=
  fn_known (fn := Try.f39) (c := (Try.f39.body.getD .skip)) Try.func39 (by kernel_rfl) rfl envOk (oracle_ok k39_0) mixed v39_0 F39_0 w39_0 [(.ptr 0 0 59 [(.ros 5), .keep, .keep, .keep, .keep])] [] 4000 L39_0 (by kernel_rfl)
    (fun _ h => nomatch h) (fun v _ h => ⟨0, (e39_0 _ v).trans h⟩) (fun _ => by kernel_rfl) (fun _ => by kernel_rfl) (fun _ _ => by kernel_rfl)
/- (*chicane/chicaneref10.In).Flag -/
abbrev A40_0 : Type := List Int × Int × Int × Int × Int
abbrev R40_0 : Type := Bool × List Int × Int × Int × Int × Int
def v40_0 : Pk G (List Int × Int × Int × Int × Int) := (Pk.snd (pk (Sh.snd (Sh.cons (Sh.ptr 0 0) Sh.nil)) (Sh.fst (Sh.hfix 0 59 (Sh.cons (Sh.ros 5) (Sh.cons (Sh.int .i64) (Sh.cons (Sh.int .i64) (Sh.cons (Sh.int .i64) (Sh.fst (Sh.cons (Sh.int .i64) Sh.nil)))))) Sh.hnil))))
def w40_0 : Wk G (Bool × List Int × Int × Int × Int × Int) := (Wk.one [.keep] (pk (Sh.fst (Sh.cons Sh.bool Sh.nil)) (Sh.fst (Sh.hfix 0 59 (Sh.cons (Sh.ros 5) (Sh.cons (Sh.int .i64) (Sh.cons (Sh.int .i64) (Sh.cons (Sh.int .i64) (Sh.fst (Sh.cons (Sh.int .i64) Sh.nil)))))) Sh.hnil))))
def F40_0 (v : List Int × Int × Int × Int × Int) : Option (Bool × List Int × Int × Int × Int × Int) :=
  (F56_0 ((1 : Int), v)).bind fun r1358 =>
  bif (!r1358.1.2) then
    some (false, r1358.2)
  else
    (rdx r1358.1.1 (0 : Int)).bind fun (x1359 : Int) =>
    bif (decide (x1359 > (1 : Int))) then
      (F57_0 (((24 : Int), r1358.2.2.2.1), r1358.2)).bind fun r1360 =>
      some (false, r1360)
    else
      (rdx r1358.1.1 (0 : Int)).bind fun (x1361 : Int) =>
      some ((x1361 == (1 : Int)), r1358.2)

noncomputable def k40_0 : List (Known Try.prog E) := [Known.of envOk [5, 1] [(.ptr 0 0 59 [(.ros 5), .keep, .keep, .keep, .keep]), .keep] v56_0 F56_0 w56_0 ok56_0, Known.of envOk [5, 1, 1] [(.ptr 0 0 59 [(.ros 5), .keep, .keep, .keep, .keep]), .keep, .keep] v57_0 F57_0 w57_0 ok57_0]
noncomputable def L40_0 (n id : Nat) (st : St G) : Option (Bool × List Int × Int × Int × Int × Int) := none
set_option maxRecDepth 100000 in
theorem e40_0 (n : Nat) (v : List Int × Int × Int × Int × Int) : ev Try.prog E (oracle k40_0) Try.f40.ntmps (fun x => mem x []) (L40_0 n) (finA Try.prog E Try.f40.results.toList [(.ptr 0 0 59 [(.ros 5), .keep, .keep, .keep, .keep])] w40_0.alts) 4000 [.code (Try.f40.body.getD .skip)] (argSt (v40_0.enc v)) = F40_0 v := by kernel_rfl
theorem ok40_0 : FnOk Try.prog E 40 v40_0.enc F40_0 w40_0.enc :=
  fn_known (fn := Try.f40) (c := (Try.f40.body.getD .skip)) Try.func40 (by kernel_rfl) rfl envOk (oracle_ok k40_0) mixed v40_0 F40_0 w40_0 [(.ptr 0 0 59 [(.ros 5), .keep, .keep, .keep, .keep])] [] 4000 L40_0 (by kernel_rfl)
    (fun _ h => nomatch h) (fun v _ h => ⟨0, (e40_0 _ v).trans h⟩) (fun _ => by kernel_rfl) (fun _ => by kernel_rfl) (fun _ _ => by kernel_rfl)
/- (*chicane/chicaneref10.In).End -/
abbrev A41_0 : Type := List Int × Int × Int × Int × Int
abbrev R41_0 : Type := (Int × Int) × List Int × Int × Int × Int × Int
def v41_0 : Pk G (List Int × Int × Int × Int × Int) := (Pk.snd (pk (Sh.snd (Sh.cons (Sh.ptr 0 0) Sh.nil)) (Sh.fst (Sh.hfix 0 59 (Sh.cons (Sh.ros 5) (Sh.cons (Sh.int .i64) (Sh.cons (Sh.int .i64) (Sh.cons (Sh.int .i64) (Sh.fst (Sh.cons (Sh.int .i64) Sh.nil)))))) Sh.hnil))))
def w41_0 : Wk G ((Int × Int) × List Int × Int × Int × Int × Int) := (Wk.one [.keep, .keep] (pk (Sh.cons (Sh.int .i64) (Sh.fst (Sh.cons (Sh.int .i64) Sh.nil))) (Sh.fst (Sh.hfix 0 59 (Sh.cons (Sh.ros 5) (Sh.cons (Sh.int .i64) (Sh.cons (Sh.int .i64) (Sh.cons (Sh.int .i64) (Sh.fst (Sh.cons (Sh.int .i64) Sh.nil)))))) Sh.hnil))))
def F41_0 (v : List Int × Int × Int × Int × Int) : Option ((Int × Int) × List Int × Int × Int × Int × Int) :=
  bif (v.2.2.2.1 == (0 : Int)) then
    bif (decide (v.2.1 < ((v.1).length : Int))) then
      (F57_0 (((23 : Int), v.2.1), v)).bind fun r1368 =>
      some (r1368.2.2.2, r1368)
    else
      some (v.2.2.2, v)
  else
    some (v.2.2.2, v)

noncomputable def k41_0 : List (Known Try.prog E) := [Known.of envOk [5, 1, 1] [(.ptr 0 0 59 [(.ros 5), .keep, .keep, .keep, .keep]), .keep, .keep] v57_0 F57_0 w57_0 ok57_0]
noncomputable def L41_0 (n id : Nat) (st : St G) : Option ((Int × Int) × List Int × Int × Int × Int × Int) := none
set_option maxRecDepth 100000 in
theorem e41_0 (n : Nat) (v : List Int × Int × Int × Int × Int) : ev Try.prog E (oracle k41_0) Try.f41.ntmps (fun x => mem x []) (L41_0 n) (finA Try.prog E Try.f41.results.toList [(.ptr 0 0 59 [(.ros 5), .keep, .keep, .keep, .keep])] w41_0.alts) 4000 [.code (Try.f41.body.getD .skip)] (argSt (v41_0.enc v)) = F41_0 v := by kernel_rfl
theorem ok41_0 : FnOk Try.prog E 41 v41_0.enc F41_0 w41_0.enc :=
  fn_known (fn := Try.f41) (c := (Try.f41.body.getD .skip)) Try.func41 (by kernel_rfl) rfl envOk (oracle_ok k41_0) mixed v41_0 F41_0 w41_0 [(.ptr 0 0 59 [(.ros 5), .keep, .keep, .keep, .keep])] [] 4000 L41_0 (by kernel_rfl)
    (fun _ h => nomatch h) (fun v _ h => ⟨0, (e41_0 _ v).trans h⟩) (fun _ => by kernel_rfl) (fun _ => by kernel_rfl) (fun _ _ => by kernel_rfl)
/- chicane/chicaneref19.Decode -/
abbrev A14_0 : Type := List Int
abbrev R14_0 : Type := (Int × Int) × List (Int × Int × Int × Int × Int × Bool × Bool)
def v14_0 : Pk G (List Int) := (Pk.fst (pk (Sh.fst (Sh.cons (Sh.ros 5) Sh.nil)) Sh.hnil))
def w14_0 : Wk G ((Int × Int) × List (Int × Int × Int × Int × Int × Bool × Bool)) := (Wk.one [(.own 0 29), .keep, .keep] (pk (Sh.snd (Sh.cons (Sh.osl 0) (Sh.cons (Sh.int .i64) (Sh.fst (Sh.cons (Sh.int .i64) Sh.nil))))) (Sh.fst (Sh.hrow 0 29 Sh.hnil))))
def c14_0_8 : Pk G ((Int × Int) × (List (Int × Int × Int × Int × Int × Bool × Bool)) × List Int × Int × Int × Int × Int) := (pk (Sh.snd (Sh.cons (Sh.ptr 0 0) (Sh.cons (Sh.int .i64) (Sh.snd (Sh.cons (Sh.osl 1) (Sh.fst (Sh.cons (Sh.int .i64) Sh.nil))))))) (Sh.hrow 1 29 (Sh.fst (Sh.hfix 0 59 (Sh.cons (Sh.ros 5) (Sh.cons (Sh.int .i64) (Sh.cons (Sh.int .i64) (Sh.cons (Sh.int .i64) (Sh.fst (Sh.cons (Sh.int .i64) Sh.nil)))))) Sh.hnil))))
def B14_0_8 (K : (((Int × Int) × (List (Int × Int × Int × Int × Int × Bool × Bool)) × List Int × Int × Int × Int × Int) → Option ((Int × Int) × List (Int × Int × Int × Int × Int × Bool × Bool)))) (v : (Int × Int) × (List (Int × Int × Int × Int × Int × Bool × Bool)) × List Int × Int × Int × Int × Int) : Option ((Int × Int) × List (Int × Int × Int × Int × Int × Bool × Bool)) :=
  bif (decide (v.1.2 < v.1.1)) then
    bif (v.2.2.2.2.2.1 == (0 : Int)) then
      (F39_0 (((0 : Int), (255 : Int)), v.2.2)).bind fun r1393 =>
      (F39_0 (((0 : Int), (255 : Int)), r1393.2)).bind fun r1394 =>
      (F39_0 (((0 : Int), (255 : Int)), r1394.2)).bind fun r1395 =>
      (F39_0 (((0 : Int), (254 : Int)), r1395.2)).bind fun r1396 =>
      let x1397 : Int := (IntKind.wrap .i64 (r1396.1 - (127 : Int)))
      (F39_0 (((0 : Int), (9 : Int)), r1396.2)).bind fun r1398 =>
      let x1399 : Int := (IntKind.wrap .i64 (r1398.1 - (1 : Int)))
      (F40_0 r1398.2).bind fun r1400 =>
      (F40_0 r1400.2).bind fun r1401 =>
      (chk (decide (((v.2.1).length + (([(r1393.1, (r1394.1, (r1395.1, (x1397, (x1399, (r1400.1, r1401.1))))))] : List (Int × Int × Int × Int × Int × Bool × Bool))).length) * 48 ≤ 140737488355328))).bind fun _ =>
      let x1402 : List (Int × Int × Int × Int × Int × Bool × Bool) := (v.2.1 ++ ([(r1393.1, (r1394.1, (r1395.1, (x1397, (x1399, (r1400.1, r1401.1))))))] : List (Int × Int × Int × Int × Int × Bool × Bool)))
      let x1403 : Int := (IntKind.wrap .i64 (v.1.2 + (1 : Int)))
      K ((v.1.1, x1403), (x1402, r1401.2))
    else
      (F41_0 v.2.2).bind fun r1404 =>
      bif (r1404.1.1 != (0 : Int)) then
        some (r1404.1, ([] : List (Int × Int × Int × Int × Int × Bool × Bool)))
      else
        some (((0 : Int), (0 : Int)), v.2.1)
  else
    (F41_0 v.2.2).bind fun r1405 =>
    bif (r1405.1.1 != (0 : Int)) then
      some (r1405.1, ([] : List (Int × Int × Int × Int × Int × Bool × Bool)))
    else
      some (((0 : Int), (0 : Int)), v.2.1)

def E14_0 (K : (((Int × Int) × (List (Int × Int × Int × Int × Int × Bool × Bool)) × List Int × Int × Int × Int × Int) → Option ((Int × Int) × List (Int × Int × Int × Int × Int × Bool × Bool)))) (v : List Int) : Option ((Int × Int) × List (Int × Int × Int × Int × Int × Bool × Bool)) :=
  (F36_0 (sc0, (v, ((0 : Int), ((0 : Int), ((0 : Int), (0 : Int))))))).bind fun r1389 =>
  (F37_0 r1389).bind fun r1390 =>
  bif (decide (r1390.1 < (0 : Int))) then
    (F38_0 ((22 : Int), r1390.2)).bind fun r1391 =>
    K ((r1390.1, (0 : Int)), (([] : List (Int × Int × Int × Int × Int × Bool × Bool)), r1391))
  else
    bif (decide (r1390.1 > (16777216 : Int))) then
      (F38_0 ((22 : Int), r1390.2)).bind fun r1392 =>
      K ((r1390.1, (0 : Int)), (([] : List (Int × Int × Int × Int × Int × Bool × Bool)), r1392))
    else
      K ((r1390.1, (0 : Int)), (([] : List (Int × Int × Int × Int × Int × Bool × Bool)), r1390.2))

def K14_0 : Nat → (((Int × Int) × (List (Int × Int × Int × Int × Int × Bool × Bool)) × List Int × Int × Int × Int × Int) → Option ((Int × Int) × List (Int × Int × Int × Int × Int × Bool × Bool)))
  | 0 => (fun _ => none)
  | n + 1 => (B14_0_8 (K14_0 n))
def fuel14_0 (v : List Int) : Nat := 1000
def F14_0 (v : List Int) : Option ((Int × Int) × List (Int × Int × Int × Int × Int × Bool × Bool)) := E14_0 (K14_0 (fuel14_0 v)) v
noncomputable def k14_0 : List (Known Try.prog E) := [Known.of envOk [5, 3] [(.ptr 0 0 59 [(.ros 5), .keep, .keep, .keep, .keep]), .keep] v36_0 F36_0 w36_0 ok36_0, Known.of envOk [5] [(.ptr 0 0 59 [(.ros 5), .keep, .keep, .keep, .keep])] v37_0 F37_0 w37_0 ok37_0, Known.of envOk [5, 1] [(.ptr 0 0 59 [(.ros 5), .keep, .keep, .keep, .keep]), .keep] v38_0 F38_0 w38_0 ok38_0, Known.of envOk [5, 1, 1] [(.ptr 0 0 59 [(.ros 5), .keep, .keep, .keep, .keep]), .keep, .keep] v39_0 F39_0 w39_0 ok39_0, Known.of envOk [5] [(.ptr 0 0 59 [(.ros 5), .keep, .keep, .keep, .keep])] v40_0 F40_0 w40_0 ok40_0, Known.of envOk [5] [(.ptr 0 0 59 [(.ros 5), .keep, .keep, .keep, .keep])] v41_0 F41_0 w41_0 ok41_0]
def s14_0_8 : List (Nat × Pat) := [(5, (.ptr 0 0 59 [(.ros 5), .keep, .keep, .keep, .keep])), (6, .keep), (7, (.own 1 29)), (8, .keep)]
noncomputable def L14_0 (n id : Nat) (st : St G) : Option ((Int × Int) × List (Int × Int × Int × Int × Int × Bool × Bool)) := match Nat.beq id 8 with | true => cutK Try.prog s14_0_8 [] c14_0_8.dec (K14_0 n) st | false => none
set_option maxRecDepth 100000 in
theorem e14_0 (n : Nat) (v : List Int) : ev Try.prog E (oracle k14_0) Try.f14.ntmps (fun x => mem x [8]) (L14_0 n) (finA Try.prog E Try.f14.results.toList [] w14_0.alts) 4000 [.code (Try.f14.body.getD .skip)] (argSt (v14_0.enc v)) = E14_0 (K14_0 n) v := by kernel_rfl
set_option maxRecDepth 100000 in
theorem b14_0_8 (n : Nat) (v : (Int × Int) × (List (Int × Int × Int × Int × Int × Bool × Bool)) × List Int × Int × Int × Int × Int) : evCut Try.prog E (oracle k14_0) Try.f14.ntmps (fun x => mem x [8]) (L14_0 n) (finA Try.prog E Try.f14.results.toList [] w14_0.alts) 4000 (todoAt (Try.f14.body.getD .skip) 8) (cutSt s14_0_8 (c14_0_8.enc v)) = B14_0_8 (K14_0 n) v := by kernel_rfl
theorem ok14_0 : FnOk Try.prog E 14 v14_0.enc F14_0 w14_0.enc :=
  fn_known (fn := Try.f14) (c := (Try.f14.body.getD .skip)) Try.func14 (by kernel_rfl) rfl envOk (oracle_ok k14_0) mixed v14_0 F14_0 w14_0 [] [8] 4000 L14_0 (by kernel_rfl)
    (List.forall_mem_cons.2 ⟨⟨_, s14_0_8, c14_0_8.dec, c14_0_8.enc, fun n => (K14_0 n), c14_0_8.ok, fun _ _ => rfl, fun _ => rfl, fun n v _ h => (b14_0_8 n v).trans h⟩, fun _ h => (nomatch h)⟩) (fun v _ h => ⟨fuel14_0 v, (e14_0 _ v).trans h⟩) (fun _ => by kernel_rfl) (fun _ => by kernel_rfl) (fun _ _ => by kernel_rfl)
/- chicane/chicaneref19.Same -/
abbrev A15_0 : Type := (List (Int × Int × Int × Int × Int × Bool × Bool)) × List (Int × Int × Int × Int × Int × Bool × Bool)
abbrev R15_0 : Type := Bool
def v15_0 : Pk G ((List (Int × Int × Int × Int × Int × Bool × Bool)) × List (Int × Int × Int × Int × Int × Bool × Bool)) := (Pk.fst (pk (Sh.cons (Sh.ros 29) (Sh.fst (Sh.cons (Sh.ros 29) Sh.nil))) Sh.hnil))
def w15_0 : Wk G Bool := (Wk.one [.keep] (Pk.fst (pk (Sh.fst (Sh.cons Sh.bool Sh.nil)) Sh.hnil)))
def c15_0_4 : Pk G ((List (Int × Int × Int × Int × Int × Bool × Bool)) × (List (Int × Int × Int × Int × Int × Bool × Bool)) × Int) := (Pk.fst (pk (Sh.cons (Sh.ros 29) (Sh.cons (Sh.ros 29) (Sh.fst (Sh.cons (Sh.int .i64) Sh.nil)))) Sh.hnil))
def B15_0_4 (K : (((List (Int × Int × Int × Int × Int × Bool × Bool)) × (List (Int × Int × Int × Int × Int × Bool × Bool)) × Int) → Option Bool)) (v : (List (Int × Int × Int × Int × Int × Bool × Bool)) × (List (Int × Int × Int × Int × Int × Bool × Bool)) × Int) : Option Bool :=
  bif (decide (v.2.2 < ((v.1).length : Int))) then
    (rdx v.1 v.2.2).bind fun (x1417 : Int × Int × Int × Int × Int × Bool × Bool) =>
    (rdx v.2.1 v.2.2).bind fun (x1418 : Int × Int × Int × Int × Int × Bool × Bool) =>
    let x1419 : Bool := ((x1417.1 == x1418.1) && ((x1417.2.1 == x1418.2.1) && ((x1417.2.2.1 == x1418.2.2.1) && ((x1417.2.2.2.1 == x1418.2.2.2.1) && ((x1417.2.2.2.2.1 == x1418.2.2.2.2.1) && ((x1417.2.2.2.2.2.1 == x1418.2.2.2.2.2.1) && ((x1417.2.2.2.2.2.2 == x1418.2.2.2.2.2.2) && true)))))))
    bif (!x1419) then
      some (false)
    else
      let x1420 : Int := (IntKind.wrap .i64 (v.2.2 + (1 : Int)))
      K (v.1, (v.2.1, x1420))
  else
    some (true)

def E15_0 (K : (((List (Int × Int × Int × Int × Int × Bool × Bool)) × (List (Int × Int × Int × Int × Int × Bool × Bool)) × Int) → Option Bool)) (v : (List (Int × Int × Int × Int × Int × Bool × Bool)) × List (Int × Int × Int × Int × Int × Bool × Bool)) : Option Bool :=
  bif (((v.1).length : Int) != ((v.2).length : Int)) then
    some (false)
  else
    K (v.1, (v.2, (0 : Int)))

def K15_0 : Nat → (((List (Int × Int × Int × Int × Int × Bool × Bool)) × (List (Int × Int × Int × Int × Int × Bool × Bool)) × Int) → Option Bool)
  | 0 => (fun _ => none)
  | n + 1 => (B15_0_4 (K15_0 n))
def fuel15_0 (v : (List (Int × Int × Int × Int × Int × Bool × Bool)) × List (Int × Int × Int × Int × Int × Bool × Bool)) : Nat := 1000
def F15_0 (v : (List (Int × Int × Int × Int × Int × Bool × Bool)) × List (Int × Int × Int × Int × Int × Bool × Bool)) : Option Bool := E15_0 (K15_0 (fuel15_0 v)) v
noncomputable def k15_0 : List (Known Try.prog E) := []
def s15_0_4 : List (Nat × Pat) := [(0, (.ros 29)), (1, (.ros 29)), (5, .keep)]
noncomputable def L15_0 (n id : Nat) (st : St G) : Option Bool := match Nat.beq id 4 with | true => cutK Try.prog s15_0_4 [] c15_0_4.dec (K15_0 n) st | false => none
set_option maxRecDepth 100000 in
theorem e15_0 (n : Nat) (v : (List (Int × Int × Int × Int × Int × Bool × Bool)) × List (Int × Int × Int × Int × Int × Bool × Bool)) : ev Try.prog E (oracle k15_0) Try.f15.ntmps (fun x => mem x [4]) (L15_0 n) (finA Try.prog E Try.f15.results.toList [] w15_0.alts) 4000 [.code (Try.f15.body.getD .skip)] (argSt (v15_0.enc v)) = E15_0 (K15_0 n) v := by kernel_rfl
set_option maxRecDepth 100000 in
theorem b15_0_4 (n : Nat) (v : (List (Int × Int × Int × Int × Int × Bool × Bool)) × (List (Int × Int × Int × Int × Int × Bool × Bool)) × Int) : evCut Try.prog E (oracle k15_0) Try.f15.ntmps (fun x => mem x [4]) (L15_0 n) (finA Try.prog E Try.f15.results.toList [] w15_0.alts) 4000 (todoAt (Try.f15.body.getD .skip) 4) (cutSt s15_0_4 (c15_0_4.enc v)) = B15_0_4 (K15_0 n) v := by kernel_rfl
theorem ok15_0 : FnOk Try.prog E 15 v15_0.enc F15_0 w15_0.enc :=
  fn_known (fn := Try.f15) (c := (Try.f15.body.getD .skip)) Try.func15 (by kernel_rfl) rfl envOk (oracle_ok k15_0) mixed v15_0 F15_0 w15_0 [] [4] 4000 L15_0 (by kernel_rfl)
    (List.forall_mem_cons.2 ⟨⟨_, s15_0_4, c15_0_4.dec, c15_0_4.enc, fun n => (K15_0 n), c15_0_4.ok, fun _ _ => rfl, fun _ => rfl, fun n v _ h => (b15_0_4 n v).trans h⟩, fun _ h => (nomatch h)⟩) (fun v _ h => ⟨fuel15_0 v, (e15_0 _ v).trans h⟩) (fun _ => by kernel_rfl) (fun _ => by kernel_rfl) (fun _ _ => by kernel_rfl)
/- chicane/chicanelaw19.ControlDecode -/
abbrev A4_0 : Type := List Int
abbrev R4_0 : Type := Bool
def v4_0 : Pk G (List Int) := (Pk.fst (pk (Sh.fst (Sh.cons (Sh.ros 5) Sh.nil)) Sh.hnil))
def w4_0 : Wk G Bool := (Wk.one [.keep] (Pk.fst (pk (Sh.fst (Sh.cons Sh.bool Sh.nil)) Sh.hnil)))
def F4_0 (v : List Int) : Option Bool :=
  bif (decide (((v).length : Int) > (6000 : Int))) then
    some (true)
  else
    (chk (decide (((([] : List Int)).length + (v).length) * 1 ≤ 140737488355328))).bind fun _ =>
    let x1428 : List Int := (([] : List Int) ++ v)
    (F13_0 x1428).bind fun r1429 =>
    (F14_0 v).bind fun r1430 =>
    (F15_0 (r1429.2, r1430.2)).bind fun r1431 =>
    bif r1431 then
      bif (r1429.1.1 == r1430.1.1) then
        bif (r1429.1.2 == r1430.1.2) then
          (F12_0 ()).bind fun r1432 =>
          some (r1432)
        else
          some (false)
      else
        some (false)
    else
      some (false)

noncomputable def k4_0 : List (Known Try.prog E) := [Known.of envOk [7] [(.ros 5)] v13_0 F13_0 w13_0 ok13_0, Known.of envOk [7] [(.ros 5)] v14_0 F14_0 w14_0 ok14_0, Known.of envOk [7, 7] [(.ros 29), (.ros 29)] v15_0 F15_0 w15_0 ok15_0, Known.of envOk [] [] v12_0 F12_0 w12_0 ok12_0]
noncomputable def L4_0 (n id : Nat) (st : St G) : Option Bool := none
set_option maxRecDepth 100000 in
theorem e4_0 (n : Nat) (v : List Int) : ev Try.prog E (oracle k4_0) Try.f4.ntmps (fun x => mem x []) (L4_0 n) (finA Try.prog E Try.f4.results.toList [] w4_0.alts) 4000 [.code (Try.f4.body.getD .skip)] (argSt (v4_0.enc v)) = F4_0 v := by kernel_rfl
theorem ok4_0 : FnOk Try.prog E 4 v4_0.enc F4_0 w4_0.enc :=
  fn_known (fn := Try.f4) (c := (Try.f4.body.getD .skip)) Try.func4 (by kernel_rfl) rfl envOk (oracle_ok k4_0) mixed v4_0 F4_0 w4_0 [] [] 4000 L4_0 (by kernel_rfl)
    (fun _ h => nomatch h) (fun v _ h => ⟨0, (e4_0 _ v).trans h⟩) (fun _ => by kernel_rfl) (fun _ => by kernel_rfl) (fun _ _ => by kernel_rfl)
/- (*chicane/chicaneref02.M).bound -/
abbrev A61_0 : Type := Bool × Bool
abbrev R61_0 : Type := Int × Bool
def v61_0 : Pk G (Bool × Bool) := (pk (Sh.snd (Sh.cons (Sh.ptr 0 0) (Sh.fst (Sh.cons Sh.bool Sh.nil)))) (Sh.fst (Sh.hfix 0 64 (Sh.fst (Sh.cons Sh.bool Sh.nil)) Sh.hnil)))
def w61_0 : Wk G (Int × Bool) := (Wk.one [.keep] (pk (Sh.fst (Sh.cons (Sh.int .i64) Sh.nil)) (Sh.fst (Sh.hfix 0 64 (Sh.fst (Sh.cons Sh.bool Sh.nil)) Sh.hnil))))
def F61_0 (v : Bool × Bool) : Option (Int × Bool) :=
  bif v.1 then
    some ((-9223372036854775808 : Int), true)
  else
    some ((9223372036854775807 : Int), true)

noncomputable def k61_0 : List (Known Try.prog E) := []
noncomputable def L61_0 (n id : Nat) (st : St G) : Option (Int × Bool) := none
set_option maxRecDepth 100000 in
theorem e61_0 (n : Nat) (v : Bool × Bool) : ev Try.prog E (oracle k61_0) Try.f61.ntmps (fun x => mem x []) (L61_0 n) (finA Try.prog E Try.f61.results.toList [(.ptr 0 0 64 [.keep])] w61_0.alts) 4000 [.code (Try.f61.body.getD .skip)] (argSt (v61_0.enc v)) = F61_0 v := by kernel_rfl
theorem ok61_0 : FnOk Try.prog E 61 v61_0.enc F61_0 w61_0.enc :=
  fn_known (fn := Try.f61) (c := (Try.f61.body.getD .skip)) Try.func61 (by kernel_rfl) rfl envOk (oracle_ok k61_0) mixed v61_0 F61_0 w61_0 [(.ptr 0 0 64 [.keep])] [] 4000 L61_0 (by kernel_rfl)
    (fun _ h => nomatch h) (fun v _ h => ⟨0, (e61_0 _ v).trans h⟩) (fun _ => by kernel_rfl) (fun _ => by kernel_rfl) (fun _ _ => by kernel_rfl)
/- chicane/chicaneref01.Size -/
abbrev A63_0 : Type := Int
abbrev R63_0 : Type := Int
def v63_0 : Pk G Int := (Pk.fst (pk (Sh.fst (Sh.cons (Sh.int .i64) Sh.nil)) Sh.hnil))
def w63_0 : Wk G Int := (Wk.one [.keep] (Pk.fst (pk (Sh.fst (Sh.cons (Sh.int .u64) Sh.nil)) Sh.hnil)))
def F63_0 (v : Int) : Option Int :=
  bif (decide (v < (0 : Int))) then
    let x1447 : Int := (IntKind.wrap .i64 (v + (1 : Int)))
    let x1448 : Int := (IntKind.wrap .i64 (0 - x1447))
    let x1449 : Int := (IntKind.wrap .u64 x1448)
    let x1450 : Int := (IntKind.wrap .u64 (x1449 + (1 : Int)))
    some (x1450)
  else
    let x1451 : Int := (IntKind.wrap .u64 v)
    some (x1451)

noncomputable def k63_0 : List (Known Try.prog E) := []
noncomputable def L63_0 (n id : Nat) (st : St G) : Option Int := none
set_option maxRecDepth 100000 in
theorem e63_0 (n : Nat) (v : Int) : ev Try.prog E (oracle k63_0) Try.f63.ntmps (fun x => mem x []) (L63_0 n) (finA Try.prog E Try.f63.results.toList [] w63_0.alts) 4000 [.code (Try.f63.body.getD .skip)] (argSt (v63_0.enc v)) = F63_0 v := by kernel_rfl
theorem ok63_0 : FnOk Try.prog E 63 v63_0.enc F63_0 w63_0.enc :=
  fn_known (fn := Try.f63) (c := (Try.f63.body.getD .skip)) Try.func63 (by kernel_rfl) rfl envOk (oracle_ok k63_0) mixed v63_0 F63_0 w63_0 [] [] 4000 L63_0 (by kernel_rfl)
    (fun _ h => nomatch h) (fun v _ h => ⟨0, (e63_0 _ v).trans h⟩) (fun _ => by kernel_rfl) (fun _ => by kernel_rfl) (fun _ _ => by kernel_rfl)
/- chicane/chicaneref02.over -/
abbrev A62_0 : Type := Int × Int
abbrev R62_0 : Type := Int × Bool
def v62_0 : Pk G (Int × Int) := (Pk.fst (pk (Sh.cons (Sh.int .u64) (Sh.fst (Sh.cons (Sh.int .u64) Sh.nil))) Sh.hnil))
def w62_0 : Wk G (Int × Bool) := (Wk.one [.keep, .keep] (Pk.fst (pk (Sh.cons (Sh.int .u64) (Sh.fst (Sh.cons Sh.bool Sh.nil))) Sh.hnil)))
def c62_0_4 : Pk G (Int × Int × Int × Int × Int) := (Pk.fst (pk (Sh.cons (Sh.int .u64) (Sh.cons (Sh.int .u64) (Sh.cons (Sh.int .u64) (Sh.cons (Sh.int .u64) (Sh.fst (Sh.cons (Sh.int .i64) Sh.nil)))))) Sh.hnil))
def B62_0_4 (K : ((Int × Int × Int × Int × Int) → Option (Int × Bool))) (v : Int × Int × Int × Int × Int) : Option (Int × Bool) :=
  bif (decide (v.2.2.2.2 ≥ (0 : Int))) then
    bif (decide (v.2.2.2.2 ≥ (32 : Int))) then
      let x1502 : Int := (IntKind.wrap .i64 (v.2.2.2.2 - (32 : Int)))
      let x1503 : Int := (IntKind.wrap .u64 x1502)
      (chk (decide (0 ≤ x1503))).bind fun _ =>
      let x1504 : Int := (Int.fdiv v.1 (2 ^ min (x1503).toNat 64))
      let x1505 : Int := (Int.tmod x1504 (2 : Int))
      let x1506 : Int := (IntKind.wrap .u64 ((2 : Int) * v.2.2.2.1))
      let x1507 : Int := (IntKind.wrap .u64 (x1506 + x1505))
      bif (decide (v.2.2.1 ≥ (9223372036854775808 : Int))) then
        some ((0 : Int), false)
      else
        let x1508 : Int := (IntKind.wrap .u64 ((2 : Int) * v.2.2.1))
        bif (decide (x1507 ≥ v.2.1)) then
          let x1509 : Int := (IntKind.wrap .u64 (x1507 - v.2.1))
          let x1510 : Int := (IntKind.wrap .u64 (x1508 + (1 : Int)))
          let x1511 : Int := (IntKind.wrap .i64 (v.2.2.2.2 - (1 : Int)))
          K (v.1, (v.2.1, (x1510, (x1509, x1511))))
        else
          let x1512 : Int := (IntKind.wrap .i64 (v.2.2.2.2 - (1 : Int)))
          K (v.1, (v.2.1, (x1508, (x1507, x1512))))
    else
      let x1513 : Int := (IntKind.wrap .u64 ((2 : Int) * v.2.2.2.1))
      let x1514 : Int := (IntKind.wrap .u64 (x1513 + (0 : Int)))
      bif (decide (v.2.2.1 ≥ (9223372036854775808 : Int))) then
        some ((0 : Int), false)
      else
        let x1515 : Int := (IntKind.wrap .u64 ((2 : Int) * v.2.2.1))
        bif (decide (x1514 ≥ v.2.1)) then
          let x1516 : Int := (IntKind.wrap .u64 (x1514 - v.2.1))
          let x1517 : Int := (IntKind.wrap .u64 (x1515 + (1 : Int)))
          let x1518 : Int := (IntKind.wrap .i64 (v.2.2.2.2 - (1 : Int)))
          K (v.1, (v.2.1, (x1517, (x1516, x1518))))
        else
          let x1519 : Int := (IntKind.wrap .i64 (v.2.2.2.2 - (1 : Int)))
          K (v.1, (v.2.1, (x1515, (x1514, x1519))))
  else
    let x1520 : Int := (IntKind.wrap .u64 (v.2.1 - v.2.2.2.1))
    bif (decide (v.2.2.2.1 > x1520)) then
      let x1521 : Int := (IntKind.wrap .u64 (v.2.2.1 + (1 : Int)))
      bif (x1521 == (0 : Int)) then
        some ((0 : Int), false)
      else
        some (x1521, true)
    else
      let x1522 : Int := (IntKind.wrap .u64 (v.2.1 - v.2.2.2.1))
      bif (v.2.2.2.1 == x1522) then
        let x1523 : Int := (Int.tmod v.2.2.1 (2 : Int))
        bif (x1523 == (1 : Int)) then
          let x1524 : Int := (IntKind.wrap .u64 (v.2.2.1 + (1 : Int)))
          bif (x1524 == (0 : Int)) then
            some ((0 : Int), false)
          else
            some (x1524, true)
        else
          some (v.2.2.1, true)
      else
        some (v.2.2.1, true)

def E62_0 (K : ((Int × Int × Int × Int × Int) → Option (Int × Bool))) (v : Int × Int) : Option (Int × Bool) :=
  K (v.1, (v.2, ((0 : Int), ((0 : Int), (95 : Int)))))

def K62_0 : Nat → ((Int × Int × Int × Int × Int) → Option (Int × Bool))
  | 0 => (fun _ => none)
  | n + 1 => (B62_0_4 (K62_0 n))
def fuel62_0 (v : Int × Int) : Nat := 1000
def F62_0 (v : Int × Int) : Option (Int × Bool) := E62_0 (K62_0 (fuel62_0 v)) v
noncomputable def k62_0 : List (Known Try.prog E) := []
def s62_0_4 : List (Nat × Pat) := [(0, .keep), (1, .keep), (6, .keep), (7, .keep), (8, .keep)]
noncomputable def L62_0 (n id : Nat) (st : St G) : Option (Int × Bool) := match Nat.beq id 4 with | true => cutK Try.prog s62_0_4 [] c62_0_4.dec (K62_0 n) st | false => none
set_option maxRecDepth 100000 in
theorem e62_0 (n : Nat) (v : Int × Int) : ev Try.prog E (oracle k62_0) Try.f62.ntmps (fun x => mem x [4]) (L62_0 n) (finA Try.prog E Try.f62.results.toList [] w62_0.alts) 4000 [.code (Try.f62.body.getD .skip)] (argSt (v62_0.enc v)) = E62_0 (K62_0 n) v := by kernel_rfl
set_option maxRecDepth 100000 in
theorem b62_0_4 (n : Nat) (v : Int × Int × Int × Int × Int) : evCut Try.prog E (oracle k62_0) Try.f62.ntmps (fun x => mem x [4]) (L62_0 n) (finA Try.prog E Try.f62.results.toList [] w62_0.alts) 4000 (todoAt (Try.f62.body.getD .skip) 4) (cutSt s62_0_4 (c62_0_4.enc v)) = B62_0_4 (K62_0 n) v := by kernel_rfl
theorem ok62_0 : FnOk Try.prog E 62 v62_0.enc F62_0 w62_0.enc :=
  fn_known (fn := Try.f62) (c := (Try.f62.body.getD .skip)) Try.func62 (by kernel_rfl) rfl envOk (oracle_ok k62_0) mixed v62_0 F62_0 w62_0 [] [4] 4000 L62_0 (by kernel_rfl)
    (List.forall_mem_cons.2 ⟨⟨_, s62_0_4, c62_0_4.dec, c62_0_4.enc, fun n => (K62_0 n), c62_0_4.ok, fun _ _ => rfl, fun _ => rfl, fun n v _ h => (b62_0_4 n v).trans h⟩, fun _ h => (nomatch h)⟩) (fun v _ h => ⟨fuel62_0 v, (e62_0 _ v).trans h⟩) (fun _ => by kernel_rfl) (fun _ => by kernel_rfl) (fun _ _ => by kernel_rfl)
/- (*chicane/chicaneref02.M).signed -/
abbrev A64_0 : Type := (Bool × Int) × Bool
abbrev R64_0 : Type := Int × Bool
def v64_0 : Pk G ((Bool × Int) × Bool) := (pk (Sh.snd (Sh.cons (Sh.ptr 0 0) (Sh.cons Sh.bool (Sh.fst (Sh.cons (Sh.int .u64) Sh.nil))))) (Sh.fst (Sh.hfix 0 64 (Sh.fst (Sh.cons Sh.bool Sh.nil)) Sh.hnil)))
def w64_0 : Wk G (Int × Bool) := (Wk.one [.keep] (pk (Sh.fst (Sh.cons (Sh.int .i64) Sh.nil)) (Sh.fst (Sh.hfix 0 64 (Sh.fst (Sh.cons Sh.bool Sh.nil)) Sh.hnil))))
def F64_0 (v : (Bool × Int) × Bool) : Option (Int × Bool) :=
  bif v.1.1 then
    bif (v.1.2 == (9223372036854775808 : Int)) then
      some ((-9223372036854775808 : Int), v.2)
    else
      bif (decide (v.1.2 > (9223372036854775807 : Int))) then
        (F61_0 (v.1.1, v.2)).bind fun r1543 =>
        some (r1543)
      else
        bif v.1.1 then
          let x1544 : Int := (IntKind.wrap .i64 v.1.2)
          let x1545 : Int := (IntKind.wrap .i64 (0 - x1544))
          some (x1545, v.2)
        else
          let x1546 : Int := (IntKind.wrap .i64 v.1.2)
          some (x1546, v.2)
  else
    bif (decide (v.1.2 > (9223372036854775807 : Int))) then
      (F61_0 (v.1.1, v.2)).bind fun r1547 =>
      some (r1547)
    else
      bif v.1.1 then
        let x1548 : Int := (IntKind.wrap .i64 v.1.2)
        let x1549 : Int := (IntKind.wrap .i64 (0 - x1548))
        some (x1549, v.2)
      else
        let x1550 : Int := (IntKind.wrap .i64 v.1.2)
        some (x1550, v.2)

noncomputable def k64_0 : List (Known Try.prog E) := [Known.of envOk [5, 2] [(.ptr 0 0 64 [.keep]), .keep] v61_0 F61_0 w61_0 ok61_0]
noncomputable def L64_0 (n id : Nat) (st : St G) : Option (Int × Bool) := none
set_option maxRecDepth 100000 in
theorem e64_0 (n : Nat) (v : (Bool × Int) × Bool) : ev Try.prog E (oracle k64_0) Try.f64.ntmps (fun x => mem x []) (L64_0 n) (finA Try.prog E Try.f64.results.toList [(.ptr 0 0 64 [.keep])] w64_0.alts) 4000 [.code (Try.f64.body.getD .skip)] (argSt (v64_0.enc v)) = F64_0 v := by kernel_rfl
theorem ok64_0 : FnOk Try.prog E 64 v64_0.enc F64_0 w64_0.enc :=
  fn_known (fn := Try.f64) (c := (Try.f64.body.getD .skip)) Try.func64 (by kernel_rfl) rfl envOk (oracle_ok k64_0) mixed v64_0 F64_0 w64_0 [(.ptr 0 0 64 [.keep])] [] 4000 L64_0 (by kernel_rfl)
    (fun _ h => nomatch h) (fun v _ h => ⟨0, (e64_0 _ v).trans h⟩) (fun _ => by kernel_rfl) (fun _ => by kernel_rfl) (fun _ _ => by kernel_rfl)
/- (*chicane/chicaneref02.M).Div -/
abbrev A59_0 : Type := (Int × Int) × Bool
abbrev R59_0 : Type := Int × Bool
def v59_0 : Pk G ((Int × Int) × Bool) := (pk (Sh.snd (Sh.cons (Sh.ptr 0 0) (Sh.cons (Sh.int .i64) (Sh.fst (Sh.cons (Sh.int .i64) Sh.nil))))) (Sh.fst (Sh.hfix 0 64 (Sh.fst (Sh.cons Sh.bool Sh.nil)) Sh.hnil)))
def w59_0 : Wk G (Int × Bool) := (Wk.one [.keep] (pk (Sh.fst (Sh.cons (Sh.int .i64) Sh.nil)) (Sh.fst (Sh.hfix 0 64 (Sh.fst (Sh.cons Sh.bool Sh.nil)) Sh.hnil))))
def F59_0 (v : (Int × Int) × Bool) : Option (Int × Bool) :=
  bif (v.1.2 == (0 : Int)) then
    bif (v.1.1 == (0 : Int)) then
      some ((0 : Int), true)
    else
      (F61_0 ((decide (v.1.1 < (0 : Int))), true)).bind fun r1558 =>
      some (r1558)
  else
    (F63_0 v.1.1).bind fun r1559 =>
    (F63_0 v.1.2).bind fun r1560 =>
    (F62_0 (r1559, r1560)).bind fun r1561 =>
    bif (!r1561.2) then
      (F61_0 ((!((decide (v.1.1 < (0 : Int))) == (decide (v.1.2 < (0 : Int))))), v.2)).bind fun r1562 =>
      some (r1562)
    else
      (F64_0 (((!((decide (v.1.1 < (0 : Int))) == (decide (v.1.2 < (0 : Int))))), r1561.1), v.2)).bind fun r1563 =>
      some (r1563)

noncomputable def k59_0 : List (Known Try.prog E) := [Known.of envOk [5, 2] [(.ptr 0 0 64 [.keep]), .keep] v61_0 F61_0 w61_0 ok61_0, Known.of envOk [1] [.keep] v63_0 F63_0 w63_0 ok63_0, Known.of envOk [1, 1] [.keep, .keep] v62_0 F62_0 w62_0 ok62_0, Known.of envOk [5, 2, 1] [(.ptr 0 0 64 [.keep]), .keep, .keep] v64_0 F64_0 w64_0 ok64_0]
noncomputable def L59_0 (n id : Nat) (st : St G) : Option (Int × Bool) := none
set_option maxRecDepth 100000 in
theorem e59_0 (n : Nat) (v : (Int × Int) × Bool) : ev Try.prog E (oracle k59_0) Try.f59.ntmps (fun x => mem x []) (L59_0 n) (finA Try.prog E Try.f59.results.toList [(.ptr 0 0 64 [.keep])] w59_0.alts) 4000 [.code (Try.f59.body.getD .skip)] (argSt (v59_0.enc v)) = F59_0 v := by kernel_rfl
theorem ok59_0 : FnOk Try.prog E 59 v59_0.enc F59_0 w59_0.enc :=
  fn_known (fn := Try.f59) (c := (Try.f59.body.getD .skip)) Try.func59 (by kernel_rfl) rfl envOk (oracle_ok k59_0) mixed v59_0 F59_0 w59_0 [(.ptr 0 0 64 [.keep])] [] 4000 L59_0 (by kernel_rfl)
    (fun _ h => nomatch h) (fun v _ h => ⟨0, (e59_0 _ v).trans h⟩) (fun _ => by kernel_rfl) (fun _ => by kernel_rfl) (fun _ _ => by kernel_rfl)
/- (*chicane/chicaneref02.M).Ratio -/
abbrev A43_0 : Type := (Int × Int) × Bool
abbrev R43_0 : Type := Int × Bool
def v43_0 : Pk G ((Int × Int) × Bool) := (pk (Sh.snd (Sh.cons (Sh.ptr 0 0) (Sh.cons (Sh.int .i64) (Sh.fst (Sh.cons (Sh.int .i64) Sh.nil))))) (Sh.fst (Sh.hfix 0 64 (Sh.fst (Sh.cons Sh.bool Sh.nil)) Sh.hnil)))
def w43_0 : Wk G (Int × Bool) := (Wk.one [.keep] (pk (Sh.fst (Sh.cons (Sh.int .i64) Sh.nil)) (Sh.fst (Sh.hfix 0 64 (Sh.fst (Sh.cons Sh.bool Sh.nil)) Sh.hnil))))
def F43_0 (v : (Int × Int) × Bool) : Option (Int × Bool) :=
  (F59_0 v).bind fun r1566 =>
  some (r1566)

noncomputable def k43_0 : List (Known Try.prog E) := [Known.of envOk [5, 1, 1] [(.ptr 0 0 64 [.keep]), .keep, .keep] v59_0 F59_0 w59_0 ok59_0]
noncomputable def L43_0 (n id : Nat) (st : St G) : Option (Int × Bool) := none
set_option maxRecDepth 100000 in
theorem e43_0 (n : Nat) (v : (Int × Int) × Bool) : ev Try.prog E (oracle k43_0) Try.f43.ntmps (fun x => mem x []) (L43_0 n) (finA Try.prog E Try.f43.results.toList [(.ptr 0 0 64 [.keep])] w43_0.alts) 4000 [.code (Try.f43.body.getD .skip)] (argSt (v43_0.enc v)) = F43_0 v := by kernel_rfl
theorem ok43_0 : FnOk Try.prog E 43 v43_0.enc F43_0 w43_0.enc :=
  fn_known (fn := Try.f43) (c := (Try.f43.body.getD .skip)) Try.func43 (by kernel_rfl) rfl envOk (oracle_ok k43_0) mixed v43_0 F43_0 w43_0 [(.ptr 0 0 64 [.keep])] [] 4000 L43_0 (by kernel_rfl)
    (fun _ h => nomatch h) (fun v _ h => ⟨0, (e43_0 _ v).trans h⟩) (fun _ => by kernel_rfl) (fun _ => by kernel_rfl) (fun _ _ => by kernel_rfl)
/- chicane/chicaneref19.Part -/
abbrev A17_0 : Type := Int
abbrev R17_0 : Type := Int
def v17_0 : Pk G Int := (Pk.fst (pk (Sh.fst (Sh.cons (Sh.int .i64) Sh.nil)) Sh.hnil))
def w17_0 : Wk G Int := (Wk.one [.keep] (Pk.fst (pk (Sh.fst (Sh.cons (Sh.int .i64) Sh.nil)) Sh.hnil)))
def F17_0 (v : Int) : Option Int :=
  let x1571 : Int := (if (255 : Int) < v then (255 : Int) else v)
  let x1572 : Int := (if (0 : Int) > x1571 then (0 : Int) else x1571)
  (F43_0 ((x1572, (255 : Int)), false)).bind fun r1573 =>
  some (r1573.1)

noncomputable def k17_0 : List (Known Try.prog E) := [Known.of envOk [5, 1, 1] [(.ptr 0 0 64 [.keep]), .keep, .keep] v43_0 F43_0 w43_0 ok43_0]
noncomputable def L17_0 (n id : Nat) (st : St G) : Option Int := none
set_option maxRecDepth 100000 in
theorem e17_0 (n : Nat) (v : Int) : ev Try.prog E (oracle k17_0) Try.f17.ntmps (fun x => mem x []) (L17_0 n) (finA Try.prog E Try.f17.results.toList [] w17_0.alts) 4000 [.code (Try.f17.body.getD .skip)] (argSt (v17_0.enc v)) = F17_0 v := by kernel_rfl
theorem ok17_0 : FnOk Try.prog E 17 v17_0.enc F17_0 w17_0.enc :=
  fn_known (fn := Try.f17) (c := (Try.f17.body.getD .skip)) Try.func17 (by kernel_rfl) rfl envOk (oracle_ok k17_0) mixed v17_0 F17_0 w17_0 [] [] 4000 L17_0 (by kernel_rfl)
    (fun _ h => nomatch h) (fun v _ h => ⟨0, (e17_0 _ v).trans h⟩) (fun _ => by kernel_rfl) (fun _ => by kernel_rfl) (fun _ _ => by kernel_rfl)
/- chicane/chicaneref19.Lean -/
abbrev A19_0 : Type := Int
abbrev R19_0 : Type := Int
def v19_0 : Pk G Int := (Pk.fst (pk (Sh.fst (Sh.cons (Sh.int .i64) Sh.nil)) Sh.hnil))
def w19_0 : Wk G Int := (Wk.one [.keep] (Pk.fst (pk (Sh.fst (Sh.cons (Sh.int .i64) Sh.nil)) Sh.hnil)))
def F19_0 (v : Int) : Option Int :=
  let x1582 : Int := (if (127 : Int) < v then (127 : Int) else v)
  let x1583 : Int := (if (-127 : Int) > x1582 then (-127 : Int) else x1582)
  (F43_0 ((x1583, (127 : Int)), false)).bind fun r1584 =>
  some (r1584.1)

noncomputable def k19_0 : List (Known Try.prog E) := [Known.of envOk [5, 1, 1] [(.ptr 0 0 64 [.keep]), .keep, .keep] v43_0 F43_0 w43_0 ok43_0]
noncomputable def L19_0 (n id : Nat) (st : St G) : Option Int := none
set_option maxRecDepth 100000 in
theorem e19_0 (n : Nat) (v : Int) : ev Try.prog E (oracle k19_0) Try.f19.ntmps (fun x => mem x []) (L19_0 n) (finA Try.prog E Try.f19.results.toList [] w19_0.alts) 4000 [.code (Try.f19.body.getD .skip)] (argSt (v19_0.enc v)) = F19_0 v := by kernel_rfl
theorem ok19_0 : FnOk Try.prog E 19 v19_0.enc F19_0 w19_0.enc :=
  fn_known (fn := Try.f19) (c := (Try.f19.body.getD .skip)) Try.func19 (by kernel_rfl) rfl envOk (oracle_ok k19_0) mixed v19_0 F19_0 w19_0 [] [] 4000 L19_0 (by kernel_rfl)
    (fun _ h => nomatch h) (fun v _ h => ⟨0, (e19_0 _ v).trans h⟩) (fun _ => by kernel_rfl) (fun _ => by kernel_rfl) (fun _ _ => by kernel_rfl)
/- chicane/chicanelaw19.ControlParts -/
abbrev A5_0 : Type := Int
abbrev R5_0 : Type := Bool
def v5_0 : Pk G Int := (Pk.fst (pk (Sh.fst (Sh.cons (Sh.int .i64) Sh.nil)) Sh.hnil))
def w5_0 : Wk G Bool := (Wk.one [.keep] (Pk.fst (pk (Sh.fst (Sh.cons Sh.bool Sh.nil)) Sh.hnil)))
def F5_0 (v : Int) : Option Bool :=
  (F16_0 v).bind fun r1596 =>
  (F17_0 v).bind fun r1597 =>
  bif (r1596 == r1597) then
    (F18_0 v).bind fun r1598 =>
    (F19_0 v).bind fun r1599 =>
    bif (r1598 == r1599) then
      (F16_0 v).bind fun r1600 =>
      bif (decide (r1600 ≥ (0 : Int))) then
        (F16_0 v).bind fun r1601 =>
        bif (decide (r1601 ≤ (4294967296 : Int))) then
          (F12_0 ()).bind fun r1602 =>
          some (r1602)
        else
          some (false)
      else
        some (false)
    else
      some (false)
  else
    some (false)

noncomputable def k5_0 : List (Known Try.prog E) := [Known.of envOk [1] [.keep] v16_0 F16_0 w16_0 ok16_0, Known.of envOk [1] [.keep] v17_0 F17_0 w17_0 ok17_0, Known.of envOk [1] [.keep] v18_0 F18_0 w18_0 ok18_0, Known.of envOk [1] [.keep] v19_0 F19_0 w19_0 ok19_0, Known.of envOk [] [] v12_0 F12_0 w12_0 ok12_0]
noncomputable def L5_0 (n id : Nat) (st : St G) : Option Bool := none
set_option maxRecDepth 100000 in
theorem e5_0 (n : Nat) (v : Int) : ev Try.prog E (oracle k5_0) Try.f5.ntmps (fun x => mem x []) (L5_0 n) (finA Try.prog E Try.f5.results.toList [] w5_0.alts) 4000 [.code (Try.f5.body.getD .skip)] (argSt (v5_0.enc v)) = F5_0 v := by kernel_rfl
theorem ok5_0 : FnOk Try.prog E 5 v5_0.enc F5_0 w5_0.enc :=
  fn_known (fn := Try.f5) (c := (Try.f5.body.getD .skip)) Try.func5 (by kernel_rfl) rfl envOk (oracle_ok k5_0) mixed v5_0 F5_0 w5_0 [] [] 4000 L5_0 (by kernel_rfl)
    (fun _ h => nomatch h) (fun v _ h => ⟨0, (e5_0 _ v).trans h⟩) (fun _ => by kernel_rfl) (fun _ => by kernel_rfl) (fun _ _ => by kernel_rfl)
/- chicane/chicanelaw19.ControlBack -/
abbrev A6_0 : Type := List (Int × Int × Int × Int × Int × Bool × Bool)
abbrev R6_0 : Type := Bool
def v6_0 : Pk G (List (Int × Int × Int × Int × Int × Bool × Bool)) := (Pk.fst (pk (Sh.fst (Sh.cons (Sh.ros 29) Sh.nil)) Sh.hnil))
def w6_0 : Wk G Bool := (Wk.one [.keep] (Pk.fst (pk (Sh.fst (Sh.cons Sh.bool Sh.nil)) Sh.hnil)))
def F6_0 (v : List (Int × Int × Int × Int × Int × Bool × Bool)) : Option Bool :=
  bif (decide (((v).length : Int) > (500 : Int))) then
    some (true)
  else
    (F8_0 v).bind fun r1613 =>
    bif (r1613.1 != (0 : Int)) then
      bif (((r1613.2).length : Int) == (0 : Int)) then
        (F12_0 ()).bind fun r1614 =>
        some (r1614)
      else
        some (false)
    else
      (F13_0 r1613.2).bind fun r1615 =>
      bif (r1615.1.1 == (0 : Int)) then
        bif (r1615.1.2 == (0 : Int)) then
          (F15_0 (v, r1615.2)).bind fun r1616 =>
          bif r1616 then
            (F12_0 ()).bind fun r1617 =>
            some (r1617)
          else
            some (false)
        else
          some (false)
      else
        some (false)

noncomputable def k6_0 : List (Known Try.prog E) := [Known.of envOk [7] [(.ros 29)] v8_0 F8_0 w8_0 ok8_0, Known.of envOk [] [] v12_0 F12_0 w12_0 ok12_0, Known.of envOk [7] [(.ros 5)] v13_0 F13_0 w13_0 ok13_0, Known.of envOk [7, 7] [(.ros 29), (.ros 29)] v15_0 F15_0 w15_0 ok15_0]
noncomputable def L6_0 (n id : Nat) (st : St G) : Option Bool := none
set_option maxRecDepth 100000 in
theorem e6_0 (n : Nat) (v : List (Int × Int × Int × Int × Int × Bool × Bool)) : ev Try.prog E (oracle k6_0) Try.f6.ntmps (fun x => mem x []) (L6_0 n) (finA Try.prog E Try.f6.results.toList [] w6_0.alts) 4000 [.code (Try.f6.body.getD .skip)] (argSt (v6_0.enc v)) = F6_0 v := by kernel_rfl
theorem ok6_0 : FnOk Try.prog E 6 v6_0.enc F6_0 w6_0.enc :=
  fn_known (fn := Try.f6) (c := (Try.f6.body.getD .skip)) Try.func6 (by kernel_rfl) rfl envOk (oracle_ok k6_0) mixed v6_0 F6_0 w6_0 [] [] 4000 L6_0 (by kernel_rfl)
    (fun _ h => nomatch h) (fun v _ h => ⟨0, (e6_0 _ v).trans h⟩) (fun _ => by kernel_rfl) (fun _ => by kernel_rfl) (fun _ _ => by kernel_rfl)
/- chicane/chicanelaw19.ControlOne -/
abbrev A7_0 : Type := List Int
abbrev R7_0 : Type := Bool
def v7_0 : Pk G (List Int) := (Pk.fst (pk (Sh.fst (Sh.cons (Sh.ros 5) Sh.nil)) Sh.hnil))
def w7_0 : Wk G Bool := (Wk.one [.keep] (Pk.fst (pk (Sh.fst (Sh.cons Sh.bool Sh.nil)) Sh.hnil)))
def c7_0_7 : Pk G ((List Int × Int) × List (Int × Int × Int × Int × Int × Bool × Bool)) := (pk (Sh.cons (Sh.ros 5) (Sh.snd (Sh.cons (Sh.osl 0) (Sh.fst (Sh.cons (Sh.int .i64) Sh.nil))))) (Sh.fst (Sh.hrow 0 29 Sh.hnil)))
def B7_0_7 (K : (((List Int × Int) × List (Int × Int × Int × Int × Int × Bool × Bool)) → Option Bool)) (v : (List Int × Int) × List (Int × Int × Int × Int × Int × Bool × Bool)) : Option Bool :=
  bif (decide (v.1.2 < ((v.2).length : Int))) then
    (idx v.1.2 (v.2).length).bind fun (x1642 : Nat) =>
    ((v.2)[x1642]?).bind fun (x1643 : Int × Int × Int × Int × Int × Bool × Bool) =>
    (F10_0 x1643).bind fun r1644 =>
    bif (r1644 != (0 : Int)) then
      some (false)
    else
      let x1645 : Int := (IntKind.wrap .i64 (v.1.2 + (1 : Int)))
      K ((v.1.1, x1645), v.2)
  else
    (F8_0 v.2).bind fun r1646 =>
    bif (r1646.1 == (0 : Int)) then
      (strOf (E.enc 5) r1646.2).bind fun (x1647 : List UInt8) =>
      (strOf (E.enc 5) v.1.1).bind fun (x1648 : List UInt8) =>
      bif ((⟨x1647.toArray⟩ : ByteArray) == (⟨x1648.toArray⟩ : ByteArray)) then
        (F12_0 ()).bind fun r1649 =>
        some (r1649)
      else
        some (false)
    else
      some (false)

def E7_0 (K : (((List Int × Int) × List (Int × Int × Int × Int × Int × Bool × Bool)) → Option Bool)) (v : List Int) : Option Bool :=
  bif (decide (((v).length : Int) > (6000 : Int))) then
    some (true)
  else
    (F13_0 v).bind fun r1640 =>
    bif (r1640.1.1 != (0 : Int)) then
      bif (decide (r1640.1.2 ≥ (0 : Int))) then
        bif (decide (r1640.1.2 ≤ ((v).length : Int))) then
          bif (((r1640.2).length : Int) == (0 : Int)) then
            (F12_0 ()).bind fun r1641 =>
            some (r1641)
          else
            some (false)
        else
          some (false)
      else
        some (false)
    else
      K ((v, (0 : Int)), r1640.2)

def K7_0 : Nat → (((List Int × Int) × List (Int × Int × Int × Int × Int × Bool × Bool)) → Option Bool)
  | 0 => (fun _ => none)
  | n + 1 => (B7_0_7 (K7_0 n))
def fuel7_0 (v : List Int) : Nat := 1000
def F7_0 (v : List Int) : Option Bool := E7_0 (K7_0 (fuel7_0 v)) v
noncomputable def k7_0 : List (Known Try.prog E) := [Known.of envOk [7] [(.ros 5)] v13_0 F13_0 w13_0 ok13_0, Known.of envOk [] [] v12_0 F12_0 w12_0 ok12_0, Known.of envOk [9] [(.agg [.keep, .keep, .keep, .keep, .keep, .keep, .keep])] v10_0 F10_0 w10_0 ok10_0, Known.of envOk [7] [(.ros 29)] v8_0 F8_0 w8_0 ok8_0]
def s7_0_7 : List (Nat × Pat) := [(0, (.ros 5)), (3, (.own 0 29)), (6, .keep)]
noncomputable def L7_0 (n id : Nat) (st : St G) : Option Bool := match Nat.beq id 7 with | true => cutK Try.prog s7_0_7 [] c7_0_7.dec (K7_0 n) st | false => none
set_option maxRecDepth 100000 in
theorem e7_0 (n : Nat) (v : List Int) : ev Try.prog E (oracle k7_0) Try.f7.ntmps (fun x => mem x [7]) (L7_0 n) (finA Try.prog E Try.f7.results.toList [] w7_0.alts) 4000 [.code (Try.f7.body.getD .skip)] (argSt (v7_0.enc v)) = E7_0 (K7_0 n) v := by kernel_rfl
set_option maxRecDepth 100000 in
theorem b7_0_7 (n : Nat) (v : (List Int × Int) × List (Int × Int × Int × Int × Int × Bool × Bool)) : evCut Try.prog E (oracle k7_0) Try.f7.ntmps (fun x => mem x [7]) (L7_0 n) (finA Try.prog E Try.f7.results.toList [] w7_0.alts) 4000 (todoAt (Try.f7.body.getD .skip) 7) (cutSt s7_0_7 (c7_0_7.enc v)) = B7_0_7 (K7_0 n) v := by kernel_rfl
theorem ok7_0 : FnOk Try.prog E 7 v7_0.enc F7_0 w7_0.enc :=
  fn_known (fn := Try.f7) (c := (Try.f7.body.getD .skip)) Try.func7 (by kernel_rfl) rfl envOk (oracle_ok k7_0) mixed v7_0 F7_0 w7_0 [] [7] 4000 L7_0 (by kernel_rfl)
    (List.forall_mem_cons.2 ⟨⟨_, s7_0_7, c7_0_7.dec, c7_0_7.enc, fun n => (K7_0 n), c7_0_7.ok, fun _ _ => rfl, fun _ => rfl, fun n v _ h => (b7_0_7 n v).trans h⟩, fun _ h => (nomatch h)⟩) (fun v _ h => ⟨fuel7_0 v, (e7_0 _ v).trans h⟩) (fun _ => by kernel_rfl) (fun _ => by kernel_rfl) (fun _ _ => by kernel_rfl)
def Dom3_0 (v : List (Int × Int × Int × Int × Int × Bool × Bool)) : Prop := (((v).length ≤ maxLen ∧ ∀ x ∈ v, (Lit.int .i64 x.1).wf = true ∧ (Lit.int .i64 x.2.1).wf = true ∧ (Lit.int .i64 x.2.2.1).wf = true ∧ (Lit.int .i64 x.2.2.2.1).wf = true ∧ (Lit.int .i64 x.2.2.2.2.1).wf = true))
def Dom4_0 (v : List Int) : Prop := (((v).length ≤ maxLen ∧ ∀ x ∈ v, (Lit.int .u8 x).wf = true))
def Dom5_0 (v : Int) : Prop := (Lit.int .i64 v).wf = true
def Dom6_0 (v : List (Int × Int × Int × Int × Int × Bool × Bool)) : Prop := (((v).length ≤ maxLen ∧ ∀ x ∈ v, (Lit.int .i64 x.1).wf = true ∧ (Lit.int .i64 x.2.1).wf = true ∧ (Lit.int .i64 x.2.2.1).wf = true ∧ (Lit.int .i64 x.2.2.2.1).wf = true ∧ (Lit.int .i64 x.2.2.2.2.1).wf = true))
def Dom7_0 (v : List Int) : Prop := (((v).length ≤ maxLen ∧ ∀ x ∈ v, (Lit.int .u8 x).wf = true))
end Go.Proofs.Ytggfniipidepdaa.Ev
