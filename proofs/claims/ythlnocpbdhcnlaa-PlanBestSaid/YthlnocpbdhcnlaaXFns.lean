import Derived.Test.YthlnocpbdhcnlaaXEnv
set_option linter.unusedVariables false
namespace Go.Proofs.Ythlnocpbdhcnlaa.Ev
open Go Go.RowKit
/- chicane/chicanelaw47.few -/
def v16_0 : Pk G (Int × Int × List Int × Int × Int × Int) := (Pk.fst (pk (Sh.fst (Sh.cons (Sh.agg (Sh.cons (Sh.int .i64) (Sh.cons (Sh.int .i64) (Sh.cons (Sh.ros 22) (Sh.cons (Sh.int .i64) (Sh.cons (Sh.int .i64) (Sh.fst (Sh.cons (Sh.int .i64) Sh.nil)))))))) Sh.nil)) Sh.hnil))
def w16_0 : Pk G Bool := (Pk.fst (pk (Sh.fst (Sh.cons Sh.bool Sh.nil)) Sh.hnil))
def F16_0 (v : Int × Int × List Int × Int × Int × Int) : Option Bool :=
  some (decide (((v.2.2.1).length : Int) ≤ (200 : Int)))

noncomputable def k16_0 : List (Known Try.prog E) := []
noncomputable def L16_0 (n id : Nat) (st : St G) : Option Bool := none
set_option maxRecDepth 100000 in
theorem e16_0 (n : Nat) (v : Int × Int × List Int × Int × Int × Int) : ev Try.prog E (oracle k16_0) Try.f16.ntmps (fun x => mem x []) (L16_0 n) (finK Try.prog E Try.f16.results.toList [.keep] [] w16_0.dec) 4000 [.code (Try.f16.body.getD .skip)] (argSt (v16_0.enc v)) = F16_0 v := by kernel_rfl
theorem ok16_0 : FnOk Try.prog E 16 v16_0.enc F16_0 w16_0.enc :=
  fn_known (fn := Try.f16) (c := (Try.f16.body.getD .skip)) Try.func16 (by kernel_rfl) rfl envOk (oracle_ok k16_0) mixed v16_0 F16_0 w16_0 [.keep] [] [] 4000 L16_0 (by kernel_rfl)
    (fun _ h => nomatch h) (fun v _ h => ⟨0, (e16_0 _ v).trans h⟩) (fun _ => by kernel_rfl) (fun _ => by kernel_rfl) (fun _ _ => by kernel_rfl)
/- chicane/plan.Right$1 -/
def v34_0 : Pk G Int := (Pk.fst (pk (Sh.fst (Sh.cons (Sh.int .i64) Sh.nil)) Sh.hnil))
def w34_0 : Pk G Bool := (Pk.fst (pk (Sh.fst (Sh.cons Sh.bool Sh.nil)) Sh.hnil))
def F34_0 (v : Int) : Option Bool :=
  match (decide (v < (0 : Int))) with
  | true =>
    some (true)
  | false =>
    some (decide (v > (281474976710656 : Int)))

noncomputable def k34_0 : List (Known Try.prog E) := []
noncomputable def L34_0 (n id : Nat) (st : St G) : Option Bool := none
set_option maxRecDepth 100000 in
theorem e34_0 (n : Nat) (v : Int) : ev Try.prog E (oracle k34_0) Try.f34.ntmps (fun x => mem x []) (L34_0 n) (finK Try.prog E Try.f34.results.toList [.keep] [] w34_0.dec) 4000 [.code (Try.f34.body.getD .skip)] (argSt (v34_0.enc v)) = F34_0 v := by kernel_rfl
theorem ok34_0 : FnOk Try.prog E 34 v34_0.enc F34_0 w34_0.enc :=
  fn_known (fn := Try.f34) (c := (Try.f34.body.getD .skip)) Try.func34 (by kernel_rfl) rfl envOk (oracle_ok k34_0) mixed v34_0 F34_0 w34_0 [.keep] [] [] 4000 L34_0 (by kernel_rfl)
    (fun _ h => nomatch h) (fun v _ h => ⟨0, (e34_0 _ v).trans h⟩) (fun _ => by kernel_rfl) (fun _ => by kernel_rfl) (fun _ _ => by kernel_rfl)
/- slices.IndexFunc[[]chicane/api.Time,chicane/api.Time] -/
def v45_0 : Pk G (List Int) := (Pk.fst (pk (Sh.fst (Sh.cons (Sh.ros 22) (Sh.snd (Sh.cons (Sh.snd (Sh.fn (.func 34) Sh.nil Sh.nil)) Sh.nil)))) Sh.hnil))
def w45_0 : Pk G Int := (Pk.fst (pk (Sh.fst (Sh.cons (Sh.int .i64) Sh.nil)) Sh.hnil))
def c45_0_2 : Pk G (List Int × Int × Int) := (Pk.fst (pk (Sh.cons (Sh.ros 22) (Sh.snd (Sh.cons (Sh.snd (Sh.fn (.func 34) Sh.nil Sh.nil)) (Sh.cons (Sh.int .i64) (Sh.fst (Sh.cons (Sh.int .i64) Sh.nil)))))) Sh.hnil))
def B45_0_2 (K : ((List Int × Int × Int) → Option Int)) (v : List Int × Int × Int) : Option Int :=
  match (decide (v.2.2 < v.2.1)) with
  | true =>
    (rdx v.1 v.2.2).bind fun (x16 : Int) =>
    (F34_0 x16).bind fun r17 =>
    match r17 with
    | true =>
      some (v.2.2)
    | false =>
      let x18 : Int := (IntKind.wrap .i64 (v.2.2 + (1 : Int)))
      K (v.1, (v.2.1, x18))
  | false =>
    some (-1 : Int)

def E45_0 (K : ((List Int × Int × Int) → Option Int)) (v : List Int) : Option Int :=
  K (v, (((v).length : Int), (0 : Int)))

def K45_0 : Nat → ((List Int × Int × Int) → Option Int)
  | 0 => (fun _ => none)
  | n + 1 => (B45_0_2 (K45_0 n))
def fuel45_0 (v : List Int) : Nat := 1000
def F45_0 (v : List Int) : Option Int := E45_0 (K45_0 (fuel45_0 v)) v
noncomputable def k45_0 : List (Known Try.prog E) := [Known.of envOk [1] [.keep] v34_0 F34_0 w34_0 ok34_0]
def s45_0_2 : List (Nat × Pat) := [(0, (.ros 22)), (1, (.fn (.func 34) [] [])), (7, .keep), (8, .keep)]
noncomputable def L45_0 (n id : Nat) (st : St G) : Option Int := match Nat.beq id 2 with | true => cutK Try.prog s45_0_2 [] c45_0_2.dec (K45_0 n) st | false => none
set_option maxRecDepth 100000 in
theorem e45_0 (n : Nat) (v : List Int) : ev Try.prog E (oracle k45_0) Try.f45.ntmps (fun x => mem x [2]) (L45_0 n) (finK Try.prog E Try.f45.results.toList [.keep] [] w45_0.dec) 4000 [.code (Try.f45.body.getD .skip)] (argSt (v45_0.enc v)) = E45_0 (K45_0 n) v := by kernel_rfl
set_option maxRecDepth 100000 in
theorem b45_0_2 (n : Nat) (v : List Int × Int × Int) : evCut Try.prog E (oracle k45_0) Try.f45.ntmps (fun x => mem x [2]) (L45_0 n) (finK Try.prog E Try.f45.results.toList [.keep] [] w45_0.dec) 4000 (todoAt (Try.f45.body.getD .skip) 2) (cutSt s45_0_2 (c45_0_2.enc v)) = B45_0_2 (K45_0 n) v := by kernel_rfl
theorem ok45_0 : FnOk Try.prog E 45 v45_0.enc F45_0 w45_0.enc :=
  fn_known (fn := Try.f45) (c := (Try.f45.body.getD .skip)) Try.func45 (by kernel_rfl) rfl envOk (oracle_ok k45_0) mixed v45_0 F45_0 w45_0 [.keep] [] [2] 4000 L45_0 (by kernel_rfl)
    (List.forall_mem_cons.2 ⟨⟨_, s45_0_2, c45_0_2.dec, c45_0_2.enc, fun n => (K45_0 n), c45_0_2.ok, fun _ _ => rfl, fun _ => rfl, fun n v _ h => (b45_0_2 n v).trans h⟩, fun _ h => (nomatch h)⟩) (fun v _ h => ⟨fuel45_0 v, (e45_0 _ v).trans h⟩) (fun _ => by kernel_rfl) (fun _ => by kernel_rfl) (fun _ _ => by kernel_rfl)
/- slices.ContainsFunc[[]chicane/api.Time,chicane/api.Time] -/
def v35_0 : Pk G (List Int) := (Pk.fst (pk (Sh.fst (Sh.cons (Sh.ros 22) (Sh.snd (Sh.cons (Sh.snd (Sh.fn (.func 34) Sh.nil Sh.nil)) Sh.nil)))) Sh.hnil))
def w35_0 : Pk G Bool := (Pk.fst (pk (Sh.fst (Sh.cons Sh.bool Sh.nil)) Sh.hnil))
def F35_0 (v : List Int) : Option Bool :=
  (F45_0 v).bind fun r21 =>
  some (decide (r21 ≥ (0 : Int)))

noncomputable def k35_0 : List (Known Try.prog E) := [Known.of envOk [7, 134] [(.ros 22), (.fn (.func 34) [] [])] v45_0 F45_0 w45_0 ok45_0]
noncomputable def L35_0 (n id : Nat) (st : St G) : Option Bool := none
set_option maxRecDepth 100000 in
theorem e35_0 (n : Nat) (v : List Int) : ev Try.prog E (oracle k35_0) Try.f35.ntmps (fun x => mem x []) (L35_0 n) (finK Try.prog E Try.f35.results.toList [.keep] [] w35_0.dec) 4000 [.code (Try.f35.body.getD .skip)] (argSt (v35_0.enc v)) = F35_0 v := by kernel_rfl
theorem ok35_0 : FnOk Try.prog E 35 v35_0.enc F35_0 w35_0.enc :=
  fn_known (fn := Try.f35) (c := (Try.f35.body.getD .skip)) Try.func35 (by kernel_rfl) rfl envOk (oracle_ok k35_0) mixed v35_0 F35_0 w35_0 [.keep] [] [] 4000 L35_0 (by kernel_rfl)
    (fun _ h => nomatch h) (fun v _ h => ⟨0, (e35_0 _ v).trans h⟩) (fun _ => by kernel_rfl) (fun _ => by kernel_rfl) (fun _ _ => by kernel_rfl)
/- chicane/plan.Right -/
def v20_0 : Pk G (Int × Int × List Int × Int × Int × Int) := (Pk.fst (pk (Sh.fst (Sh.cons (Sh.agg (Sh.cons (Sh.int .i64) (Sh.cons (Sh.int .i64) (Sh.cons (Sh.ros 22) (Sh.cons (Sh.int .i64) (Sh.cons (Sh.int .i64) (Sh.fst (Sh.cons (Sh.int .i64) Sh.nil)))))))) Sh.nil)) Sh.hnil))
def w20_0 : Pk G Int := (Pk.fst (pk (Sh.fst (Sh.cons (Sh.int .i64) Sh.nil)) Sh.hnil))
def F20_0 (v : Int × Int × List Int × Int × Int × Int) : Option Int :=
  let x30 : Int := (if v.2.2.2.2.2 < v.1 then v.2.2.2.2.2 else v.1)
  match (decide (x30 < (1 : Int))) with
  | true =>
    some (40 : Int)
  | false =>
    let x31 : Int := (if v.2.2.2.2.2 > v.1 then v.2.2.2.2.2 else v.1)
    let x32 : Int := (if ((v.2.2.1).length : Int) > x31 then ((v.2.2.1).length : Int) else x31)
    match (decide (x32 > (100 : Int))) with
    | true =>
      some (40 : Int)
    | false =>
      (F34_0 v.2.1).bind fun r33 =>
      match r33 with
      | true =>
        some (40 : Int)
      | false =>
        (F34_0 v.2.2.2.1).bind fun r34 =>
        match r34 with
        | true =>
          some (40 : Int)
        | false =>
          (F34_0 v.2.2.2.2.1).bind fun r35 =>
          match r35 with
          | true =>
            some (40 : Int)
          | false =>
            (F35_0 v.2.2.1).bind fun r36 =>
            match r36 with
            | true =>
              some (40 : Int)
            | false =>
              some (0 : Int)

noncomputable def k20_0 : List (Known Try.prog E) := [Known.of envOk [1] [.keep] v34_0 F34_0 w34_0 ok34_0, Known.of envOk [7, 134] [(.ros 22), (.fn (.func 34) [] [])] v35_0 F35_0 w35_0 ok35_0]
noncomputable def L20_0 (n id : Nat) (st : St G) : Option Int := none
set_option maxRecDepth 100000 in
theorem e20_0 (n : Nat) (v : Int × Int × List Int × Int × Int × Int) : ev Try.prog E (oracle k20_0) Try.f20.ntmps (fun x => mem x []) (L20_0 n) (finK Try.prog E Try.f20.results.toList [.keep] [] w20_0.dec) 4000 [.code (Try.f20.body.getD .skip)] (argSt (v20_0.enc v)) = F20_0 v := by kernel_rfl
theorem ok20_0 : FnOk Try.prog E 20 v20_0.enc F20_0 w20_0.enc :=
  fn_known (fn := Try.f20) (c := (Try.f20.body.getD .skip)) Try.func20 (by kernel_rfl) rfl envOk (oracle_ok k20_0) mixed v20_0 F20_0 w20_0 [.keep] [] [] 4000 L20_0 (by kernel_rfl)
    (fun _ h => nomatch h) (fun v _ h => ⟨0, (e20_0 _ v).trans h⟩) (fun _ => by kernel_rfl) (fun _ => by kernel_rfl) (fun _ _ => by kernel_rfl)
/- slices.Clone[[]int,int] -/
def v33_n : Pk G Unit := (Pk.snd (pk (Sh.snd (Sh.cons Sh.nilsl Sh.nil)) Sh.hnil))
def w33_n : Pk G (List Int) := (Pk.snd (pk (Sh.snd (Sh.cons (Sh.osl 0) Sh.nil)) (Sh.fst (Sh.hrow 0 3 Sh.hnil))))
def F33_n (v : Unit) : Option (List Int) :=
  some ([] : List Int)

noncomputable def k33_n : List (Known Try.prog E) := []
noncomputable def L33_n (n id : Nat) (st : St G) : Option (List Int) := none
set_option maxRecDepth 100000 in
theorem e33_n (n : Nat) (v : Unit) : ev Try.prog E (oracle k33_n) Try.f33.ntmps (fun x => mem x []) (L33_n n) (finK Try.prog E Try.f33.results.toList [(.own 0 3)] [] w33_n.dec) 4000 [.code (Try.f33.body.getD .skip)] (argSt (v33_n.enc v)) = F33_n v := by kernel_rfl
theorem ok33_n : FnOk Try.prog E 33 v33_n.enc F33_n w33_n.enc :=
  fn_known (fn := Try.f33) (c := (Try.f33.body.getD .skip)) Try.func33 (by kernel_rfl) rfl envOk (oracle_ok k33_n) mixed v33_n F33_n w33_n [(.own 0 3)] [] [] 4000 L33_n (by kernel_rfl)
    (fun _ h => nomatch h) (fun v _ h => ⟨0, (e33_n _ v).trans h⟩) (fun _ => by kernel_rfl) (fun _ => by kernel_rfl) (fun _ _ => by kernel_rfl)
/- slices.Clone[[]int,int] -/
def v33_r : Pk G (List Int) := (Pk.fst (pk (Sh.fst (Sh.cons (Sh.rosn 3) Sh.nil)) Sh.hnil))
def w33_r : Pk G (List Int) := (Pk.snd (pk (Sh.snd (Sh.cons (Sh.osl 0) Sh.nil)) (Sh.fst (Sh.hrow 0 3 Sh.hnil))))
def F33_r (v : List Int) : Option (List Int) :=
  (chk (decide (((([] : List Int)).length + (v).length) * 8 ≤ 140737488355328))).bind fun _ =>
  let x41 : List Int := (([] : List Int) ++ v)
  some (x41)

noncomputable def k33_r : List (Known Try.prog E) := []
noncomputable def L33_r (n id : Nat) (st : St G) : Option (List Int) := none
set_option maxRecDepth 100000 in
theorem e33_r (n : Nat) (v : List Int) : ev Try.prog E (oracle k33_r) Try.f33.ntmps (fun x => mem x []) (L33_r n) (finK Try.prog E Try.f33.results.toList [(.own 0 3)] [] w33_r.dec) 4000 [.code (Try.f33.body.getD .skip)] (argSt (v33_r.enc v)) = F33_r v := by kernel_rfl
theorem ok33_r : FnOk Try.prog E 33 v33_r.enc F33_r w33_r.enc :=
  fn_known (fn := Try.f33) (c := (Try.f33.body.getD .skip)) Try.func33 (by kernel_rfl) rfl envOk (oracle_ok k33_r) mixed v33_r F33_r w33_r [(.own 0 3)] [] [] 4000 L33_r (by kernel_rfl)
    (fun _ h => nomatch h) (fun v _ h => ⟨0, (e33_r _ v).trans h⟩) (fun _ => by kernel_rfl) (fun _ => by kernel_rfl) (fun _ _ => by kernel_rfl)
/- slices.Clone[[]int,int] -/
def v33_0 : Pk G (List Int) := (Pk.fst (pk (Sh.fst (Sh.cons (Sh.ros 3) Sh.nil)) Sh.hnil))
def w33_0 : Pk G (List Int) := (Pk.snd (pk (Sh.snd (Sh.cons (Sh.osl 0) Sh.nil)) (Sh.fst (Sh.hrow 0 3 Sh.hnil))))
def F33_0 (v : List Int) : Option (List Int) := F33_r v
theorem on33_0 : FnOk Try.prog E 33 (fun _ : Unit => ([AV.nilsl], [])) F33_n w33_0.enc := ok33_n
theorem or33_0 : FnOk Try.prog E 33 (fun xs : List (G 3) => ([AV.rosn 3 xs], [])) F33_r w33_0.enc := ok33_r
theorem ok33_0 : FnOk Try.prog E 33 v33_0.enc F33_0 w33_0.enc := FnOk.split (e := 3) on33_0 or33_0 (fun _ h => (by kernel_rfl : F33_n () = F33_r []).trans h) (fun _ _ h => h)
/- (chicane/plan.Race).old -/
def v37_0 : Pk G ((Int × Int × List Int × Int × Int × Int) × Int) := (Pk.fst (pk (Sh.cons (Sh.agg (Sh.cons (Sh.int .i64) (Sh.cons (Sh.int .i64) (Sh.cons (Sh.ros 22) (Sh.cons (Sh.int .i64) (Sh.cons (Sh.int .i64) (Sh.fst (Sh.cons (Sh.int .i64) Sh.nil)))))))) (Sh.fst (Sh.cons (Sh.int .i64) Sh.nil))) Sh.hnil))
def w37_0 : Pk G Int := (Pk.fst (pk (Sh.fst (Sh.cons (Sh.int .i64) Sh.nil)) Sh.hnil))
def F37_0 (v : (Int × Int × List Int × Int × Int × Int) × Int) : Option Int :=
  match (((v.1.2.2.1).length : Int) == (0 : Int)) with
  | true =>
    some (0 : Int)
  | false =>
    let x61 : Int := (IntKind.wrap .i64 (((v.1.2.2.1).length : Int) - (1 : Int)))
    let x62 : Int := (if x61 < v.2 then x61 else v.2)
    (rdx v.1.2.2.1 x62).bind fun (x63 : Int) =>
    some (x63)

noncomputable def k37_0 : List (Known Try.prog E) := []
noncomputable def L37_0 (n id : Nat) (st : St G) : Option Int := none
set_option maxRecDepth 100000 in
theorem e37_0 (n : Nat) (v : (Int × Int × List Int × Int × Int × Int) × Int) : ev Try.prog E (oracle k37_0) Try.f37.ntmps (fun x => mem x []) (L37_0 n) (finK Try.prog E Try.f37.results.toList [.keep] [] w37_0.dec) 4000 [.code (Try.f37.body.getD .skip)] (argSt (v37_0.enc v)) = F37_0 v := by kernel_rfl
theorem ok37_0 : FnOk Try.prog E 37 v37_0.enc F37_0 w37_0.enc :=
  fn_known (fn := Try.f37) (c := (Try.f37.body.getD .skip)) Try.func37 (by kernel_rfl) rfl envOk (oracle_ok k37_0) mixed v37_0 F37_0 w37_0 [.keep] [] [] 4000 L37_0 (by kernel_rfl)
    (fun _ h => nomatch h) (fun v _ h => ⟨0, (e37_0 _ v).trans h⟩) (fun _ => by kernel_rfl) (fun _ => by kernel_rfl) (fun _ _ => by kernel_rfl)
/- chicane/plan.Stint -/
def v23_0 : Pk G ((Int × Int × List Int × Int × Int × Int) × Int) := (Pk.fst (pk (Sh.cons (Sh.agg (Sh.cons (Sh.int .i64) (Sh.cons (Sh.int .i64) (Sh.cons (Sh.ros 22) (Sh.cons (Sh.int .i64) (Sh.cons (Sh.int .i64) (Sh.fst (Sh.cons (Sh.int .i64) Sh.nil)))))))) (Sh.fst (Sh.cons (Sh.int .i64) Sh.nil))) Sh.hnil))
def w23_0 : Pk G Int := (Pk.fst (pk (Sh.fst (Sh.cons (Sh.int .i64) Sh.nil)) Sh.hnil))
def c23_0_6 : Pk G ((Int × Int × Int) × Int × Int × List Int × Int × Int × Int) := (pk (Sh.snd (Sh.cons (Sh.ptr 0 0) (Sh.cons (Sh.int .i64) (Sh.cons (Sh.int .i64) (Sh.fst (Sh.cons (Sh.int .i64) Sh.nil)))))) (Sh.fst (Sh.hfix 0 47 (Sh.cons (Sh.int .i64) (Sh.cons (Sh.int .i64) (Sh.cons (Sh.ros 22) (Sh.cons (Sh.int .i64) (Sh.cons (Sh.int .i64) (Sh.fst (Sh.cons (Sh.int .i64) Sh.nil))))))) Sh.hnil)))
def B23_0_6 (K : (((Int × Int × Int) × Int × Int × List Int × Int × Int × Int) → Option Int)) (v : (Int × Int × Int) × Int × Int × List Int × Int × Int × Int) : Option Int :=
  match (decide (v.1.2.2 < v.1.2.1)) with
  | true =>
    (F37_0 ((v.2.1, (v.2.2.1, (v.2.2.2.1, (v.2.2.2.2.1, (v.2.2.2.2.2.1, v.2.2.2.2.2.2))))), v.1.2.2)).bind fun r83 =>
    let x84 : Int := (IntKind.wrap .i64 (v.1.1 + r83))
    let x85 : Int := (IntKind.wrap .i64 (v.1.2.2 + (1 : Int)))
    K ((x84, (v.1.2.1, x85)), (v.2.1, (v.2.2.1, (v.2.2.2.1, (v.2.2.2.2.1, (v.2.2.2.2.2.1, v.2.2.2.2.2.2))))))
  | false =>
    some (v.1.1)

def E23_0 (K : (((Int × Int × Int) × Int × Int × List Int × Int × Int × Int) → Option Int)) (v : (Int × Int × List Int × Int × Int × Int) × Int) : Option Int :=
  match (decide (v.2 < (1 : Int))) with
  | true =>
    some (0 : Int)
  | false =>
    match (decide (v.2 > v.1.1)) with
    | true =>
      some (0 : Int)
    | false =>
      let x77 : Int := (IntKind.wrap .i64 (v.2 * v.1.2.1))
      let x78 : Int := (IntKind.wrap .i64 (v.2 + (1 : Int)))
      let x79 : Int := (IntKind.wrap .i64 (v.2 * x78))
      let x80 : Int := (IntKind.wrap .i64 (Int.tdiv x79 (2 : Int)))
      let x81 : Int := (IntKind.wrap .i64 (v.1.2.2.2.1 * x80))
      let x82 : Int := (IntKind.wrap .i64 (x77 + x81))
      K ((x82, (v.2, (0 : Int))), (v.1.1, (v.1.2.1, (v.1.2.2.1, (v.1.2.2.2.1, (v.1.2.2.2.2.1, v.1.2.2.2.2.2))))))

def K23_0 : Nat → (((Int × Int × Int) × Int × Int × List Int × Int × Int × Int) → Option Int)
  | 0 => (fun _ => none)
  | n + 1 => (B23_0_6 (K23_0 n))
def fuel23_0 (v : (Int × Int × List Int × Int × Int × Int) × Int) : Nat := 1000
def F23_0 (v : (Int × Int × List Int × Int × Int × Int) × Int) : Option Int := E23_0 (K23_0 (fuel23_0 v)) v
noncomputable def k23_0 : List (Known Try.prog E) := [Known.of envOk [9, 1] [(.agg [.keep, .keep, (.ros 22), .keep, .keep, .keep]), .keep] v37_0 F37_0 w37_0 ok37_0]
def s23_0_6 : List (Nat × Pat) := [(2, (.ptr 0 0 47 [.keep, .keep, (.ros 22), .keep, .keep, .keep])), (6, .keep), (30, .keep), (31, .keep)]
noncomputable def L23_0 (n id : Nat) (st : St G) : Option Int := match Nat.beq id 6 with | true => cutK Try.prog s23_0_6 [] c23_0_6.dec (K23_0 n) st | false => none
set_option maxRecDepth 100000 in
theorem e23_0 (n : Nat) (v : (Int × Int × List Int × Int × Int × Int) × Int) : ev Try.prog E (oracle k23_0) Try.f23.ntmps (fun x => mem x [6]) (L23_0 n) (finK Try.prog E Try.f23.results.toList [.keep] [] w23_0.dec) 4000 [.code (Try.f23.body.getD .skip)] (argSt (v23_0.enc v)) = E23_0 (K23_0 n) v := by kernel_rfl
set_option maxRecDepth 100000 in
theorem b23_0_6 (n : Nat) (v : (Int × Int × Int) × Int × Int × List Int × Int × Int × Int) : evCut Try.prog E (oracle k23_0) Try.f23.ntmps (fun x => mem x [6]) (L23_0 n) (finK Try.prog E Try.f23.results.toList [.keep] [] w23_0.dec) 4000 (todoAt (Try.f23.body.getD .skip) 6) (cutSt s23_0_6 (c23_0_6.enc v)) = B23_0_6 (K23_0 n) v := by kernel_rfl
theorem ok23_0 : FnOk Try.prog E 23 v23_0.enc F23_0 w23_0.enc :=
  fn_known (fn := Try.f23) (c := (Try.f23.body.getD .skip)) Try.func23 (by kernel_rfl) rfl envOk (oracle_ok k23_0) mixed v23_0 F23_0 w23_0 [.keep] [] [6] 4000 L23_0 (by kernel_rfl)
    (List.forall_mem_cons.2 ⟨⟨_, s23_0_6, c23_0_6.dec, c23_0_6.enc, fun n => (K23_0 n), c23_0_6.ok, fun _ _ => rfl, fun _ => rfl, fun n v _ h => (b23_0_6 n v).trans h⟩, fun _ h => (nomatch h)⟩) (fun v _ h => ⟨fuel23_0 v, (e23_0 _ v).trans h⟩) (fun _ => by kernel_rfl) (fun _ => by kernel_rfl) (fun _ _ => by kernel_rfl)
/- chicane/plan.Time -/
def v17_0 : Pk G ((Int × Int × List Int × Int × Int × Int) × List Int) := (Pk.fst (pk (Sh.cons (Sh.agg (Sh.cons (Sh.int .i64) (Sh.cons (Sh.int .i64) (Sh.cons (Sh.ros 22) (Sh.cons (Sh.int .i64) (Sh.cons (Sh.int .i64) (Sh.fst (Sh.cons (Sh.int .i64) Sh.nil)))))))) (Sh.fst (Sh.cons (Sh.ros 3) Sh.nil))) Sh.hnil))
def w17_0 : Pk G (Int × Bool) := (Pk.fst (pk (Sh.cons (Sh.int .i64) (Sh.fst (Sh.cons Sh.bool Sh.nil))) Sh.hnil))
def c17_0_5 : Pk G ((Int × Int × Int × Int) × List Int × Int × Int × List Int × Int × Int × Int) := (pk (Sh.snd (Sh.cons (Sh.ptr 0 0) (Sh.cons (Sh.int .i64) (Sh.cons (Sh.int .i64) (Sh.snd (Sh.cons (Sh.osl 1) (Sh.cons (Sh.int .i64) (Sh.fst (Sh.cons (Sh.int .i64) Sh.nil))))))))) (Sh.hrow 1 3 (Sh.fst (Sh.hfix 0 47 (Sh.cons (Sh.int .i64) (Sh.cons (Sh.int .i64) (Sh.cons (Sh.ros 22) (Sh.cons (Sh.int .i64) (Sh.cons (Sh.int .i64) (Sh.fst (Sh.cons (Sh.int .i64) Sh.nil))))))) Sh.hnil))))
def B17_0_5 (K : (((Int × Int × Int × Int) × List Int × Int × Int × List Int × Int × Int × Int) → Option (Int × Bool))) (v : (Int × Int × Int × Int) × List Int × Int × Int × List Int × Int × Int × Int) : Option (Int × Bool) :=
  match (decide (v.1.2.2.2 < v.1.2.2.1)) with
  | true =>
    (idx v.1.2.2.2 (v.2.1).length).bind fun (x104 : Nat) =>
    ((v.2.1)[x104]?).bind fun (x105 : Int) =>
    let x106 : Int := (IntKind.wrap .i64 (x105 - v.1.2.1))
    match (decide (x105 ≤ v.1.2.1)) with
    | true =>
      some ((0 : Int), false)
    | false =>
      match (decide (x105 > v.2.2.1)) with
      | true =>
        some ((0 : Int), false)
      | false =>
        match (decide (x106 > v.2.2.2.2.2.2.2)) with
        | true =>
          some ((0 : Int), false)
        | false =>
          (F23_0 ((v.2.2.1, (v.2.2.2.1, (v.2.2.2.2.1, (v.2.2.2.2.2.1, (v.2.2.2.2.2.2.1, v.2.2.2.2.2.2.2))))), x106)).bind fun r107 =>
          let x108 : Int := (IntKind.wrap .i64 (v.1.1 + r107))
          let x109 : Int := (IntKind.wrap .i64 (v.1.2.2.2 + (1 : Int)))
          K ((x108, (x105, (v.1.2.2.1, x109))), (v.2.1, (v.2.2.1, (v.2.2.2.1, (v.2.2.2.2.1, (v.2.2.2.2.2.1, (v.2.2.2.2.2.2.1, v.2.2.2.2.2.2.2)))))))
  | false =>
    some (v.1.1, true)

def E17_0 (K : (((Int × Int × Int × Int) × List Int × Int × Int × List Int × Int × Int × Int) → Option (Int × Bool))) (v : (Int × Int × List Int × Int × Int × Int) × List Int) : Option (Int × Bool) :=
  (F20_0 (v.1.1, (v.1.2.1, (v.1.2.2.1, (v.1.2.2.2.1, (v.1.2.2.2.2.1, v.1.2.2.2.2.2)))))).bind fun r100 =>
  match (r100 != (0 : Int)) with
  | true =>
    some ((0 : Int), false)
  | false =>
    let x101 : Int := (IntKind.wrap .i64 (((v.2).length : Int) * v.1.2.2.2.2.1))
    (F33_0 v.2).bind fun r102 =>
    (chk (decide (((r102).length + (([v.1.1] : List Int)).length) * 8 ≤ 140737488355328))).bind fun _ =>
    let x103 : List Int := (r102 ++ ([v.1.1] : List Int))
    K ((x101, ((0 : Int), (((x103).length : Int), (0 : Int)))), (x103, (v.1.1, (v.1.2.1, (v.1.2.2.1, (v.1.2.2.2.1, (v.1.2.2.2.2.1, v.1.2.2.2.2.2)))))))

def K17_0 : Nat → (((Int × Int × Int × Int) × List Int × Int × Int × List Int × Int × Int × Int) → Option (Int × Bool))
  | 0 => (fun _ => none)
  | n + 1 => (B17_0_5 (K17_0 n))
def fuel17_0 (v : (Int × Int × List Int × Int × Int × Int) × List Int) : Nat := 1000
def F17_0 (v : (Int × Int × List Int × Int × Int × Int) × List Int) : Option (Int × Bool) := E17_0 (K17_0 (fuel17_0 v)) v
noncomputable def k17_0 : List (Known Try.prog E) := [Known.of envOk [9] [(.agg [.keep, .keep, (.ros 22), .keep, .keep, .keep])] v20_0 F20_0 w20_0 ok20_0, Known.of envOk [7] [(.ros 3)] v33_0 F33_0 w33_0 ok33_0, Known.of envOk [9, 1] [(.agg [.keep, .keep, (.ros 22), .keep, .keep, .keep]), .keep] v23_0 F23_0 w23_0 ok23_0]
def s17_0_5 : List (Nat × Pat) := [(2, (.ptr 0 0 47 [.keep, .keep, (.ros 22), .keep, .keep, .keep])), (6, .keep), (7, .keep), (24, (.own 1 3)), (25, .keep), (26, .keep)]
noncomputable def L17_0 (n id : Nat) (st : St G) : Option (Int × Bool) := match Nat.beq id 5 with | true => cutK Try.prog s17_0_5 [] c17_0_5.dec (K17_0 n) st | false => none
set_option maxRecDepth 100000 in
theorem e17_0 (n : Nat) (v : (Int × Int × List Int × Int × Int × Int) × List Int) : ev Try.prog E (oracle k17_0) Try.f17.ntmps (fun x => mem x [5]) (L17_0 n) (finK Try.prog E Try.f17.results.toList [.keep, .keep] [] w17_0.dec) 4000 [.code (Try.f17.body.getD .skip)] (argSt (v17_0.enc v)) = E17_0 (K17_0 n) v := by kernel_rfl
set_option maxRecDepth 100000 in
theorem b17_0_5 (n : Nat) (v : (Int × Int × Int × Int) × List Int × Int × Int × List Int × Int × Int × Int) : evCut Try.prog E (oracle k17_0) Try.f17.ntmps (fun x => mem x [5]) (L17_0 n) (finK Try.prog E Try.f17.results.toList [.keep, .keep] [] w17_0.dec) 4000 (todoAt (Try.f17.body.getD .skip) 5) (cutSt s17_0_5 (c17_0_5.enc v)) = B17_0_5 (K17_0 n) v := by kernel_rfl
theorem ok17_0 : FnOk Try.prog E 17 v17_0.enc F17_0 w17_0.enc :=
  fn_known (fn := Try.f17) (c := (Try.f17.body.getD .skip)) Try.func17 (by kernel_rfl) rfl envOk (oracle_ok k17_0) mixed v17_0 F17_0 w17_0 [.keep, .keep] [] [5] 4000 L17_0 (by kernel_rfl)
    (List.forall_mem_cons.2 ⟨⟨_, s17_0_5, c17_0_5.dec, c17_0_5.enc, fun n => (K17_0 n), c17_0_5.ok, fun _ _ => rfl, fun _ => rfl, fun n v _ h => (b17_0_5 n v).trans h⟩, fun _ h => (nomatch h)⟩) (fun v _ h => ⟨fuel17_0 v, (e17_0 _ v).trans h⟩) (fun _ => by kernel_rfl) (fun _ => by kernel_rfl) (fun _ _ => by kernel_rfl)
/- chicane/chicanelaw47.plain -/
def v19_0 : Pk G (Int × Int × List Int × Int × Int × Int) := (Pk.fst (pk (Sh.fst (Sh.cons (Sh.agg (Sh.cons (Sh.int .i64) (Sh.cons (Sh.int .i64) (Sh.cons (Sh.ros 22) (Sh.cons (Sh.int .i64) (Sh.cons (Sh.int .i64) (Sh.fst (Sh.cons (Sh.int .i64) Sh.nil)))))))) Sh.nil)) Sh.hnil))
def w19_0 : Pk G (Int × Int × List Int × Int × Int × Int) := (Pk.fst (pk (Sh.fst (Sh.cons (Sh.agg (Sh.cons (Sh.int .i64) (Sh.cons (Sh.int .i64) (Sh.cons (Sh.ros 22) (Sh.cons (Sh.int .i64) (Sh.cons (Sh.int .i64) (Sh.fst (Sh.cons (Sh.int .i64) Sh.nil)))))))) Sh.nil)) Sh.hnil))
def F19_0 (v : Int × Int × List Int × Int × Int × Int) : Option (Int × Int × List Int × Int × Int × Int) :=
  some (v.1, (v.2.1, (v.2.2.1, (v.2.2.2.1, (v.2.2.2.2.1, v.2.2.2.2.2)))))

noncomputable def k19_0 : List (Known Try.prog E) := []
noncomputable def L19_0 (n id : Nat) (st : St G) : Option (Int × Int × List Int × Int × Int × Int) := none
set_option maxRecDepth 100000 in
theorem e19_0 (n : Nat) (v : Int × Int × List Int × Int × Int × Int) : ev Try.prog E (oracle k19_0) Try.f19.ntmps (fun x => mem x []) (L19_0 n) (finK Try.prog E Try.f19.results.toList [(.agg [.keep, .keep, (.ros 22), .keep, .keep, .keep])] [] w19_0.dec) 4000 [.code (Try.f19.body.getD .skip)] (argSt (v19_0.enc v)) = F19_0 v := by kernel_rfl
theorem ok19_0 : FnOk Try.prog E 19 v19_0.enc F19_0 w19_0.enc :=
  fn_known (fn := Try.f19) (c := (Try.f19.body.getD .skip)) Try.func19 (by kernel_rfl) rfl envOk (oracle_ok k19_0) mixed v19_0 F19_0 w19_0 [(.agg [.keep, .keep, (.ros 22), .keep, .keep, .keep])] [] [] 4000 L19_0 (by kernel_rfl)
    (fun _ h => nomatch h) (fun v _ h => ⟨0, (e19_0 _ v).trans h⟩) (fun _ => by kernel_rfl) (fun _ => by kernel_rfl) (fun _ _ => by kernel_rfl)
/- chicane/chicaneref47.in -/
def v36_0 : Pk G Int := (Pk.fst (pk (Sh.fst (Sh.cons (Sh.int .i64) Sh.nil)) Sh.hnil))
def w36_0 : Pk G Bool := (Pk.fst (pk (Sh.fst (Sh.cons Sh.bool Sh.nil)) Sh.hnil))
def F36_0 (v : Int) : Option Bool :=
  match (decide (v ≥ (0 : Int))) with
  | true =>
    some (decide (v ≤ (281474976710656 : Int)))
  | false =>
    some (false)

noncomputable def k36_0 : List (Known Try.prog E) := []
noncomputable def L36_0 (n id : Nat) (st : St G) : Option Bool := none
set_option maxRecDepth 100000 in
theorem e36_0 (n : Nat) (v : Int) : ev Try.prog E (oracle k36_0) Try.f36.ntmps (fun x => mem x []) (L36_0 n) (finK Try.prog E Try.f36.results.toList [.keep] [] w36_0.dec) 4000 [.code (Try.f36.body.getD .skip)] (argSt (v36_0.enc v)) = F36_0 v := by kernel_rfl
theorem ok36_0 : FnOk Try.prog E 36 v36_0.enc F36_0 w36_0.enc :=
  fn_known (fn := Try.f36) (c := (Try.f36.body.getD .skip)) Try.func36 (by kernel_rfl) rfl envOk (oracle_ok k36_0) mixed v36_0 F36_0 w36_0 [.keep] [] [] 4000 L36_0 (by kernel_rfl)
    (fun _ h => nomatch h) (fun v _ h => ⟨0, (e36_0 _ v).trans h⟩) (fun _ => by kernel_rfl) (fun _ => by kernel_rfl) (fun _ _ => by kernel_rfl)
/- chicane/chicaneref47.Right -/
def v21_0 : Pk G (Int × Int × List Int × Int × Int × Int) := (Pk.fst (pk (Sh.fst (Sh.cons (Sh.agg (Sh.cons (Sh.int .i64) (Sh.cons (Sh.int .i64) (Sh.cons (Sh.ros 22) (Sh.cons (Sh.int .i64) (Sh.cons (Sh.int .i64) (Sh.fst (Sh.cons (Sh.int .i64) Sh.nil)))))))) Sh.nil)) Sh.hnil))
def w21_0 : Pk G Int := (Pk.fst (pk (Sh.fst (Sh.cons (Sh.int .i64) Sh.nil)) Sh.hnil))
def c21_0_3 : Pk G ((Bool × Int) × Int × Int × List Int × Int × Int × Int) := (pk (Sh.snd (Sh.cons (Sh.ptr 0 0) (Sh.cons Sh.bool (Sh.fst (Sh.cons (Sh.int .i64) Sh.nil))))) (Sh.fst (Sh.hfix 0 53 (Sh.cons (Sh.int .i64) (Sh.cons (Sh.int .i64) (Sh.cons (Sh.ros 22) (Sh.cons (Sh.int .i64) (Sh.cons (Sh.int .i64) (Sh.fst (Sh.cons (Sh.int .i64) Sh.nil))))))) Sh.hnil)))
def B21_0_3 (K : (((Bool × Int) × Int × Int × List Int × Int × Int × Int) → Option Int)) (v : (Bool × Int) × Int × Int × List Int × Int × Int × Int) : Option Int :=
  match (decide (v.1.2 < ((v.2.2.2.1).length : Int))) with
  | true =>
    match v.1.1 with
    | true =>
      (rdx v.2.2.2.1 v.1.2).bind fun (x129 : Int) =>
      (F36_0 x129).bind fun r130 =>
      let x131 : Int := (IntKind.wrap .i64 (v.1.2 + (1 : Int)))
      K ((r130, x131), (v.2.1, (v.2.2.1, (v.2.2.2.1, (v.2.2.2.2.1, (v.2.2.2.2.2.1, v.2.2.2.2.2.2))))))
    | false =>
      match (!v.1.1) with
      | true =>
        some (40 : Int)
      | false =>
        some (0 : Int)
  | false =>
    match (!v.1.1) with
    | true =>
      some (40 : Int)
    | false =>
      some (0 : Int)

def E21_0 (K : (((Bool × Int) × Int × Int × List Int × Int × Int × Int) → Option Int)) (v : Int × Int × List Int × Int × Int × Int) : Option Int :=
  match (decide (v.1 ≥ (1 : Int))) with
  | true =>
    match (decide (v.1 ≤ (100 : Int))) with
    | true =>
      match (decide (v.2.2.2.2.2 ≥ (1 : Int))) with
      | true =>
        match (decide (v.2.2.2.2.2 ≤ (100 : Int))) with
        | true =>
          match (decide (((v.2.2.1).length : Int) ≤ (100 : Int))) with
          | true =>
            (F36_0 v.2.1).bind fun r126 =>
            match r126 with
            | true =>
              (F36_0 v.2.2.2.1).bind fun r127 =>
              match r127 with
              | true =>
                (F36_0 v.2.2.2.2.1).bind fun r128 =>
                K ((r128, (0 : Int)), (v.1, (v.2.1, (v.2.2.1, (v.2.2.2.1, (v.2.2.2.2.1, v.2.2.2.2.2))))))
              | false =>
                K ((false, (0 : Int)), (v.1, (v.2.1, (v.2.2.1, (v.2.2.2.1, (v.2.2.2.2.1, v.2.2.2.2.2))))))
            | false =>
              K ((false, (0 : Int)), (v.1, (v.2.1, (v.2.2.1, (v.2.2.2.1, (v.2.2.2.2.1, v.2.2.2.2.2))))))
          | false =>
            K ((false, (0 : Int)), (v.1, (v.2.1, (v.2.2.1, (v.2.2.2.1, (v.2.2.2.2.1, v.2.2.2.2.2))))))
        | false =>
          K ((false, (0 : Int)), (v.1, (v.2.1, (v.2.2.1, (v.2.2.2.1, (v.2.2.2.2.1, v.2.2.2.2.2))))))
      | false =>
        K ((false, (0 : Int)), (v.1, (v.2.1, (v.2.2.1, (v.2.2.2.1, (v.2.2.2.2.1, v.2.2.2.2.2))))))
    | false =>
      K ((false, (0 : Int)), (v.1, (v.2.1, (v.2.2.1, (v.2.2.2.1, (v.2.2.2.2.1, v.2.2.2.2.2))))))
  | false =>
    K ((false, (0 : Int)), (v.1, (v.2.1, (v.2.2.1, (v.2.2.2.1, (v.2.2.2.2.1, v.2.2.2.2.2))))))

def K21_0 : Nat → (((Bool × Int) × Int × Int × List Int × Int × Int × Int) → Option Int)
  | 0 => (fun _ => none)
  | n + 1 => (B21_0_3 (K21_0 n))
def fuel21_0 (v : Int × Int × List Int × Int × Int × Int) : Nat := 1000
def F21_0 (v : Int × Int × List Int × Int × Int × Int) : Option Int := E21_0 (K21_0 (fuel21_0 v)) v
noncomputable def k21_0 : List (Known Try.prog E) := [Known.of envOk [1] [.keep] v36_0 F36_0 w36_0 ok36_0]
def s21_0_3 : List (Nat × Pat) := [(1, (.ptr 0 0 53 [.keep, .keep, (.ros 22), .keep, .keep, .keep])), (3, .keep), (4, .keep)]
noncomputable def L21_0 (n id : Nat) (st : St G) : Option Int := match Nat.beq id 3 with | true => cutK Try.prog s21_0_3 [] c21_0_3.dec (K21_0 n) st | false => none
set_option maxRecDepth 100000 in
theorem e21_0 (n : Nat) (v : Int × Int × List Int × Int × Int × Int) : ev Try.prog E (oracle k21_0) Try.f21.ntmps (fun x => mem x [3]) (L21_0 n) (finK Try.prog E Try.f21.results.toList [.keep] [] w21_0.dec) 4000 [.code (Try.f21.body.getD .skip)] (argSt (v21_0.enc v)) = E21_0 (K21_0 n) v := by kernel_rfl
set_option maxRecDepth 100000 in
theorem b21_0_3 (n : Nat) (v : (Bool × Int) × Int × Int × List Int × Int × Int × Int) : evCut Try.prog E (oracle k21_0) Try.f21.ntmps (fun x => mem x [3]) (L21_0 n) (finK Try.prog E Try.f21.results.toList [.keep] [] w21_0.dec) 4000 (todoAt (Try.f21.body.getD .skip) 3) (cutSt s21_0_3 (c21_0_3.enc v)) = B21_0_3 (K21_0 n) v := by kernel_rfl
theorem ok21_0 : FnOk Try.prog E 21 v21_0.enc F21_0 w21_0.enc :=
  fn_known (fn := Try.f21) (c := (Try.f21.body.getD .skip)) Try.func21 (by kernel_rfl) rfl envOk (oracle_ok k21_0) mixed v21_0 F21_0 w21_0 [.keep] [] [3] 4000 L21_0 (by kernel_rfl)
    (List.forall_mem_cons.2 ⟨⟨_, s21_0_3, c21_0_3.dec, c21_0_3.enc, fun n => (K21_0 n), c21_0_3.ok, fun _ _ => rfl, fun _ => rfl, fun n v _ h => (b21_0_3 n v).trans h⟩, fun _ h => (nomatch h)⟩) (fun v _ h => ⟨fuel21_0 v, (e21_0 _ v).trans h⟩) (fun _ => by kernel_rfl) (fun _ => by kernel_rfl) (fun _ _ => by kernel_rfl)
/- chicane/chicaneref47.old -/
def v38_0 : Pk G ((Int × Int × List Int × Int × Int × Int) × Int) := (Pk.fst (pk (Sh.cons (Sh.agg (Sh.cons (Sh.int .i64) (Sh.cons (Sh.int .i64) (Sh.cons (Sh.ros 22) (Sh.cons (Sh.int .i64) (Sh.cons (Sh.int .i64) (Sh.fst (Sh.cons (Sh.int .i64) Sh.nil)))))))) (Sh.fst (Sh.cons (Sh.int .i64) Sh.nil))) Sh.hnil))
def w38_0 : Pk G Int := (Pk.fst (pk (Sh.fst (Sh.cons (Sh.int .i64) Sh.nil)) Sh.hnil))
def F38_0 (v : (Int × Int × List Int × Int × Int × Int) × Int) : Option Int :=
  match (((v.1.2.2.1).length : Int) == (0 : Int)) with
  | true =>
    some (0 : Int)
  | false =>
    match (decide (v.2 ≥ ((v.1.2.2.1).length : Int))) with
    | true =>
      let x145 : Int := (IntKind.wrap .i64 (((v.1.2.2.1).length : Int) - (1 : Int)))
      (rdx v.1.2.2.1 x145).bind fun (x146 : Int) =>
      some (x146)
    | false =>
      (rdx v.1.2.2.1 v.2).bind fun (x147 : Int) =>
      some (x147)

noncomputable def k38_0 : List (Known Try.prog E) := []
noncomputable def L38_0 (n id : Nat) (st : St G) : Option Int := none
set_option maxRecDepth 100000 in
theorem e38_0 (n : Nat) (v : (Int × Int × List Int × Int × Int × Int) × Int) : ev Try.prog E (oracle k38_0) Try.f38.ntmps (fun x => mem x []) (L38_0 n) (finK Try.prog E Try.f38.results.toList [.keep] [] w38_0.dec) 4000 [.code (Try.f38.body.getD .skip)] (argSt (v38_0.enc v)) = F38_0 v := by kernel_rfl
theorem ok38_0 : FnOk Try.prog E 38 v38_0.enc F38_0 w38_0.enc :=
  fn_known (fn := Try.f38) (c := (Try.f38.body.getD .skip)) Try.func38 (by kernel_rfl) rfl envOk (oracle_ok k38_0) mixed v38_0 F38_0 w38_0 [.keep] [] [] 4000 L38_0 (by kernel_rfl)
    (fun _ h => nomatch h) (fun v _ h => ⟨0, (e38_0 _ v).trans h⟩) (fun _ => by kernel_rfl) (fun _ => by kernel_rfl) (fun _ _ => by kernel_rfl)
/- chicane/chicaneref47.Stint -/
def v24_0 : Pk G ((Int × Int × List Int × Int × Int × Int) × Int) := (Pk.fst (pk (Sh.cons (Sh.agg (Sh.cons (Sh.int .i64) (Sh.cons (Sh.int .i64) (Sh.cons (Sh.ros 22) (Sh.cons (Sh.int .i64) (Sh.cons (Sh.int .i64) (Sh.fst (Sh.cons (Sh.int .i64) Sh.nil)))))))) (Sh.fst (Sh.cons (Sh.int .i64) Sh.nil))) Sh.hnil))
def w24_0 : Pk G Int := (Pk.fst (pk (Sh.fst (Sh.cons (Sh.int .i64) Sh.nil)) Sh.hnil))
def c24_0_5 : Pk G ((Int × Int × Int) × Int × Int × List Int × Int × Int × Int) := (pk (Sh.cons (Sh.int .i64) (Sh.snd (Sh.cons (Sh.ptr 0 0) (Sh.cons (Sh.int .i64) (Sh.fst (Sh.cons (Sh.int .i64) Sh.nil)))))) (Sh.fst (Sh.hfix 0 53 (Sh.cons (Sh.int .i64) (Sh.cons (Sh.int .i64) (Sh.cons (Sh.ros 22) (Sh.cons (Sh.int .i64) (Sh.cons (Sh.int .i64) (Sh.fst (Sh.cons (Sh.int .i64) Sh.nil))))))) Sh.hnil)))
def B24_0_5 (K : (((Int × Int × Int) × Int × Int × List Int × Int × Int × Int) → Option Int)) (v : (Int × Int × Int) × Int × Int × List Int × Int × Int × Int) : Option Int :=
  match (decide (v.1.2.2 < v.1.1)) with
  | true =>
    (F38_0 ((v.2.1, (v.2.2.1, (v.2.2.2.1, (v.2.2.2.2.1, (v.2.2.2.2.2.1, v.2.2.2.2.2.2))))), v.1.2.2)).bind fun r163 =>
    let x164 : Int := (IntKind.wrap .i64 (v.2.2.1 + r163))
    let x165 : Int := (IntKind.wrap .i64 (v.1.1 - v.1.2.2))
    let x166 : Int := (IntKind.wrap .i64 (v.2.2.2.2.1 * x165))
    let x167 : Int := (IntKind.wrap .i64 (x164 + x166))
    let x168 : Int := (IntKind.wrap .i64 (v.1.2.1 + x167))
    let x169 : Int := (IntKind.wrap .i64 (v.1.2.2 + (1 : Int)))
    K ((v.1.1, (x168, x169)), (v.2.1, (v.2.2.1, (v.2.2.2.1, (v.2.2.2.2.1, (v.2.2.2.2.2.1, v.2.2.2.2.2.2))))))
  | false =>
    some (v.1.2.1)

def E24_0 (K : (((Int × Int × Int) × Int × Int × List Int × Int × Int × Int) → Option Int)) (v : (Int × Int × List Int × Int × Int × Int) × Int) : Option Int :=
  match (decide (v.2 > v.1.1)) with
  | true =>
    some (0 : Int)
  | false =>
    K ((v.2, ((0 : Int), (0 : Int))), (v.1.1, (v.1.2.1, (v.1.2.2.1, (v.1.2.2.2.1, (v.1.2.2.2.2.1, v.1.2.2.2.2.2))))))

def K24_0 : Nat → (((Int × Int × Int) × Int × Int × List Int × Int × Int × Int) → Option Int)
  | 0 => (fun _ => none)
  | n + 1 => (B24_0_5 (K24_0 n))
def fuel24_0 (v : (Int × Int × List Int × Int × Int × Int) × Int) : Nat := 1000
def F24_0 (v : (Int × Int × List Int × Int × Int × Int) × Int) : Option Int := E24_0 (K24_0 (fuel24_0 v)) v
noncomputable def k24_0 : List (Known Try.prog E) := [Known.of envOk [9, 1] [(.agg [.keep, .keep, (.ros 22), .keep, .keep, .keep]), .keep] v38_0 F38_0 w38_0 ok38_0]
def s24_0_5 : List (Nat × Pat) := [(1, .keep), (2, (.ptr 0 0 53 [.keep, .keep, (.ros 22), .keep, .keep, .keep])), (5, .keep), (6, .keep)]
noncomputable def L24_0 (n id : Nat) (st : St G) : Option Int := match Nat.beq id 5 with | true => cutK Try.prog s24_0_5 [] c24_0_5.dec (K24_0 n) st | false => none
set_option maxRecDepth 100000 in
theorem e24_0 (n : Nat) (v : (Int × Int × List Int × Int × Int × Int) × Int) : ev Try.prog E (oracle k24_0) Try.f24.ntmps (fun x => mem x [5]) (L24_0 n) (finK Try.prog E Try.f24.results.toList [.keep] [] w24_0.dec) 4000 [.code (Try.f24.body.getD .skip)] (argSt (v24_0.enc v)) = E24_0 (K24_0 n) v := by kernel_rfl
set_option maxRecDepth 100000 in
theorem b24_0_5 (n : Nat) (v : (Int × Int × Int) × Int × Int × List Int × Int × Int × Int) : evCut Try.prog E (oracle k24_0) Try.f24.ntmps (fun x => mem x [5]) (L24_0 n) (finK Try.prog E Try.f24.results.toList [.keep] [] w24_0.dec) 4000 (todoAt (Try.f24.body.getD .skip) 5) (cutSt s24_0_5 (c24_0_5.enc v)) = B24_0_5 (K24_0 n) v := by kernel_rfl
theorem ok24_0 : FnOk Try.prog E 24 v24_0.enc F24_0 w24_0.enc :=
  fn_known (fn := Try.f24) (c := (Try.f24.body.getD .skip)) Try.func24 (by kernel_rfl) rfl envOk (oracle_ok k24_0) mixed v24_0 F24_0 w24_0 [.keep] [] [5] 4000 L24_0 (by kernel_rfl)
    (List.forall_mem_cons.2 ⟨⟨_, s24_0_5, c24_0_5.dec, c24_0_5.enc, fun n => (K24_0 n), c24_0_5.ok, fun _ _ => rfl, fun _ => rfl, fun n v _ h => (b24_0_5 n v).trans h⟩, fun _ h => (nomatch h)⟩) (fun v _ h => ⟨fuel24_0 v, (e24_0 _ v).trans h⟩) (fun _ => by kernel_rfl) (fun _ => by kernel_rfl) (fun _ _ => by kernel_rfl)
/- chicane/chicaneref47.Time -/
def v18_0 : Pk G ((Int × Int × List Int × Int × Int × Int) × List Int) := (Pk.fst (pk (Sh.cons (Sh.agg (Sh.cons (Sh.int .i64) (Sh.cons (Sh.int .i64) (Sh.cons (Sh.ros 22) (Sh.cons (Sh.int .i64) (Sh.cons (Sh.int .i64) (Sh.fst (Sh.cons (Sh.int .i64) Sh.nil)))))))) (Sh.fst (Sh.cons (Sh.ros 3) Sh.nil))) Sh.hnil))
def w18_0 : Pk G (Int × Bool) := (Pk.fst (pk (Sh.cons (Sh.int .i64) (Sh.fst (Sh.cons Sh.bool Sh.nil))) Sh.hnil))
def c18_0_6 : Pk G ((List Int × Int × Int × Int) × Int × Int × List Int × Int × Int × Int) := (pk (Sh.cons (Sh.ros 3) (Sh.snd (Sh.cons (Sh.ptr 0 0) (Sh.cons (Sh.int .i64) (Sh.cons (Sh.int .i64) (Sh.fst (Sh.cons (Sh.int .i64) Sh.nil))))))) (Sh.fst (Sh.hfix 0 53 (Sh.cons (Sh.int .i64) (Sh.cons (Sh.int .i64) (Sh.cons (Sh.ros 22) (Sh.cons (Sh.int .i64) (Sh.cons (Sh.int .i64) (Sh.fst (Sh.cons (Sh.int .i64) Sh.nil))))))) Sh.hnil)))
def B18_0_6 (K : (((List Int × Int × Int × Int) × Int × Int × List Int × Int × Int × Int) → Option (Int × Bool))) (v : (List Int × Int × Int × Int) × Int × Int × List Int × Int × Int × Int) : Option (Int × Bool) :=
  match (decide (v.1.2.2.2 ≤ ((v.1.1).length : Int))) with
  | true =>
    match (decide (v.1.2.2.2 < ((v.1.1).length : Int))) with
    | true =>
      (rdx v.1.1 v.1.2.2.2).bind fun (x213 : Int) =>
      let x214 : Int := (IntKind.wrap .i64 (v.1.2.1 + v.2.2.2.2.2.1))
      match (decide (x213 ≤ v.1.2.2.1)) with
      | true =>
        some ((0 : Int), false)
      | false =>
        match (decide (x213 > v.2.1)) with
        | true =>
          some ((0 : Int), false)
        | false =>
          match (decide (v.1.2.2.2 < ((v.1.1).length : Int))) with
          | true =>
            match (x213 == v.2.1) with
            | true =>
              some ((0 : Int), false)
            | false =>
              let x215 : Int := (IntKind.wrap .i64 (x213 - v.1.2.2.1))
              match (decide (x215 > v.2.2.2.2.2.2)) with
              | true =>
                some ((0 : Int), false)
              | false =>
                let x216 : Int := (IntKind.wrap .i64 (x213 - v.1.2.2.1))
                (F24_0 ((v.2.1, (v.2.2.1, (v.2.2.2.1, (v.2.2.2.2.1, (v.2.2.2.2.2.1, v.2.2.2.2.2.2))))), x216)).bind fun r217 =>
                let x218 : Int := (IntKind.wrap .i64 (x214 + r217))
                let x219 : Int := (IntKind.wrap .i64 (v.1.2.2.2 + (1 : Int)))
                K ((v.1.1, (x218, (x213, x219))), (v.2.1, (v.2.2.1, (v.2.2.2.1, (v.2.2.2.2.1, (v.2.2.2.2.2.1, v.2.2.2.2.2.2))))))
          | false =>
            let x220 : Int := (IntKind.wrap .i64 (x213 - v.1.2.2.1))
            match (decide (x220 > v.2.2.2.2.2.2)) with
            | true =>
              some ((0 : Int), false)
            | false =>
              let x221 : Int := (IntKind.wrap .i64 (x213 - v.1.2.2.1))
              (F24_0 ((v.2.1, (v.2.2.1, (v.2.2.2.1, (v.2.2.2.2.1, (v.2.2.2.2.2.1, v.2.2.2.2.2.2))))), x221)).bind fun r222 =>
              let x223 : Int := (IntKind.wrap .i64 (x214 + r222))
              let x224 : Int := (IntKind.wrap .i64 (v.1.2.2.2 + (1 : Int)))
              K ((v.1.1, (x223, (x213, x224))), (v.2.1, (v.2.2.1, (v.2.2.2.1, (v.2.2.2.2.1, (v.2.2.2.2.2.1, v.2.2.2.2.2.2))))))
    | false =>
      match (decide (v.2.1 ≤ v.1.2.2.1)) with
      | true =>
        some ((0 : Int), false)
      | false =>
        match (decide (v.2.1 > v.2.1)) with
        | true =>
          some ((0 : Int), false)
        | false =>
          match (decide (v.1.2.2.2 < ((v.1.1).length : Int))) with
          | true =>
            match (v.2.1 == v.2.1) with
            | true =>
              some ((0 : Int), false)
            | false =>
              let x225 : Int := (IntKind.wrap .i64 (v.2.1 - v.1.2.2.1))
              match (decide (x225 > v.2.2.2.2.2.2)) with
              | true =>
                some ((0 : Int), false)
              | false =>
                let x226 : Int := (IntKind.wrap .i64 (v.2.1 - v.1.2.2.1))
                (F24_0 ((v.2.1, (v.2.2.1, (v.2.2.2.1, (v.2.2.2.2.1, (v.2.2.2.2.2.1, v.2.2.2.2.2.2))))), x226)).bind fun r227 =>
                let x228 : Int := (IntKind.wrap .i64 (v.1.2.1 + r227))
                let x229 : Int := (IntKind.wrap .i64 (v.1.2.2.2 + (1 : Int)))
                K ((v.1.1, (x228, (v.2.1, x229))), (v.2.1, (v.2.2.1, (v.2.2.2.1, (v.2.2.2.2.1, (v.2.2.2.2.2.1, v.2.2.2.2.2.2))))))
          | false =>
            let x230 : Int := (IntKind.wrap .i64 (v.2.1 - v.1.2.2.1))
            match (decide (x230 > v.2.2.2.2.2.2)) with
            | true =>
              some ((0 : Int), false)
            | false =>
              let x231 : Int := (IntKind.wrap .i64 (v.2.1 - v.1.2.2.1))
              (F24_0 ((v.2.1, (v.2.2.1, (v.2.2.2.1, (v.2.2.2.2.1, (v.2.2.2.2.2.1, v.2.2.2.2.2.2))))), x231)).bind fun r232 =>
              let x233 : Int := (IntKind.wrap .i64 (v.1.2.1 + r232))
              let x234 : Int := (IntKind.wrap .i64 (v.1.2.2.2 + (1 : Int)))
              K ((v.1.1, (x233, (v.2.1, x234))), (v.2.1, (v.2.2.1, (v.2.2.2.1, (v.2.2.2.2.1, (v.2.2.2.2.2.1, v.2.2.2.2.2.2))))))
  | false =>
    some (v.1.2.1, true)

def E18_0 (K : (((List Int × Int × Int × Int) × Int × Int × List Int × Int × Int × Int) → Option (Int × Bool))) (v : (Int × Int × List Int × Int × Int × Int) × List Int) : Option (Int × Bool) :=
  (F21_0 (v.1.1, (v.1.2.1, (v.1.2.2.1, (v.1.2.2.2.1, (v.1.2.2.2.2.1, v.1.2.2.2.2.2)))))).bind fun r212 =>
  match (r212 != (0 : Int)) with
  | true =>
    some ((0 : Int), false)
  | false =>
    K ((v.2, ((0 : Int), ((0 : Int), (0 : Int)))), (v.1.1, (v.1.2.1, (v.1.2.2.1, (v.1.2.2.2.1, (v.1.2.2.2.2.1, v.1.2.2.2.2.2))))))

def K18_0 : Nat → (((List Int × Int × Int × Int) × Int × Int × List Int × Int × Int × Int) → Option (Int × Bool))
  | 0 => (fun _ => none)
  | n + 1 => (B18_0_6 (K18_0 n))
def fuel18_0 (v : (Int × Int × List Int × Int × Int × Int) × List Int) : Nat := 1000
def F18_0 (v : (Int × Int × List Int × Int × Int × Int) × List Int) : Option (Int × Bool) := E18_0 (K18_0 (fuel18_0 v)) v
noncomputable def k18_0 : List (Known Try.prog E) := [Known.of envOk [9] [(.agg [.keep, .keep, (.ros 22), .keep, .keep, .keep])] v21_0 F21_0 w21_0 ok21_0, Known.of envOk [9, 1] [(.agg [.keep, .keep, (.ros 22), .keep, .keep, .keep]), .keep] v24_0 F24_0 w24_0 ok24_0]
def s18_0_6 : List (Nat × Pat) := [(1, (.ros 3)), (2, (.ptr 0 0 53 [.keep, .keep, (.ros 22), .keep, .keep, .keep])), (6, .keep), (7, .keep), (8, .keep)]
noncomputable def L18_0 (n id : Nat) (st : St G) : Option (Int × Bool) := match Nat.beq id 6 with | true => cutK Try.prog s18_0_6 [] c18_0_6.dec (K18_0 n) st | false => none
set_option maxRecDepth 100000 in
theorem e18_0 (n : Nat) (v : (Int × Int × List Int × Int × Int × Int) × List Int) : ev Try.prog E (oracle k18_0) Try.f18.ntmps (fun x => mem x [6]) (L18_0 n) (finK Try.prog E Try.f18.results.toList [.keep, .keep] [] w18_0.dec) 4000 [.code (Try.f18.body.getD .skip)] (argSt (v18_0.enc v)) = E18_0 (K18_0 n) v := by kernel_rfl
set_option maxRecDepth 100000 in
theorem b18_0_6 (n : Nat) (v : (List Int × Int × Int × Int) × Int × Int × List Int × Int × Int × Int) : evCut Try.prog E (oracle k18_0) Try.f18.ntmps (fun x => mem x [6]) (L18_0 n) (finK Try.prog E Try.f18.results.toList [.keep, .keep] [] w18_0.dec) 4000 (todoAt (Try.f18.body.getD .skip) 6) (cutSt s18_0_6 (c18_0_6.enc v)) = B18_0_6 (K18_0 n) v := by kernel_rfl
theorem ok18_0 : FnOk Try.prog E 18 v18_0.enc F18_0 w18_0.enc :=
  fn_known (fn := Try.f18) (c := (Try.f18.body.getD .skip)) Try.func18 (by kernel_rfl) rfl envOk (oracle_ok k18_0) mixed v18_0 F18_0 w18_0 [.keep, .keep] [] [6] 4000 L18_0 (by kernel_rfl)
    (List.forall_mem_cons.2 ⟨⟨_, s18_0_6, c18_0_6.dec, c18_0_6.enc, fun n => (K18_0 n), c18_0_6.ok, fun _ _ => rfl, fun _ => rfl, fun n v _ h => (b18_0_6 n v).trans h⟩, fun _ h => (nomatch h)⟩) (fun v _ h => ⟨fuel18_0 v, (e18_0 _ v).trans h⟩) (fun _ => by kernel_rfl) (fun _ => by kernel_rfl) (fun _ _ => by kernel_rfl)
/- (chicane/plan.rest).ahead -/
def v39_0 : Pk G ((Int × Int × Int) × Int × Int × Int) := (Pk.fst (pk (Sh.cons (Sh.agg (Sh.cons (Sh.int .i64) (Sh.cons (Sh.int .i64) (Sh.fst (Sh.cons (Sh.int .i64) Sh.nil))))) (Sh.fst (Sh.cons (Sh.agg (Sh.cons (Sh.int .i64) (Sh.cons (Sh.int .i64) (Sh.fst (Sh.cons (Sh.int .i64) Sh.nil))))) Sh.nil))) Sh.hnil))
def w39_0 : Pk G Bool := (Pk.fst (pk (Sh.fst (Sh.cons Sh.bool Sh.nil)) Sh.hnil))
def F39_0 (v : (Int × Int × Int) × Int × Int × Int) : Option Bool :=
  match (v.1.1 != v.2.1) with
  | true =>
    some (decide (v.1.1 < v.2.1))
  | false =>
    match (v.1.2.1 != v.2.2.1) with
    | true =>
      some (decide (v.1.2.1 < v.2.2.1))
    | false =>
      some (decide (v.1.2.2 > v.2.2.2))

noncomputable def k39_0 : List (Known Try.prog E) := []
noncomputable def L39_0 (n id : Nat) (st : St G) : Option Bool := none
set_option maxRecDepth 100000 in
theorem e39_0 (n : Nat) (v : (Int × Int × Int) × Int × Int × Int) : ev Try.prog E (oracle k39_0) Try.f39.ntmps (fun x => mem x []) (L39_0 n) (finK Try.prog E Try.f39.results.toList [.keep] [] w39_0.dec) 4000 [.code (Try.f39.body.getD .skip)] (argSt (v39_0.enc v)) = F39_0 v := by kernel_rfl
theorem ok39_0 : FnOk Try.prog E 39 v39_0.enc F39_0 w39_0.enc :=
  fn_known (fn := Try.f39) (c := (Try.f39.body.getD .skip)) Try.func39 (by kernel_rfl) rfl envOk (oracle_ok k39_0) mixed v39_0 F39_0 w39_0 [.keep] [] [] 4000 L39_0 (by kernel_rfl)
    (fun _ h => nomatch h) (fun v _ h => ⟨0, (e39_0 _ v).trans h⟩) (fun _ => by kernel_rfl) (fun _ => by kernel_rfl) (fun _ _ => by kernel_rfl)
/- chicane/plan.Best -/
def v25_0 : Pk G (Int × Int × List Int × Int × Int × Int) := (Pk.fst (pk (Sh.fst (Sh.cons (Sh.agg (Sh.cons (Sh.int .i64) (Sh.cons (Sh.int .i64) (Sh.cons (Sh.ros 22) (Sh.cons (Sh.int .i64) (Sh.cons (Sh.int .i64) (Sh.fst (Sh.cons (Sh.int .i64) Sh.nil)))))))) Sh.nil)) Sh.hnil))
def w25_0 : Pk G ((Int × Bool) × List Int) := (pk (Sh.snd (Sh.cons (Sh.osl 0) (Sh.cons (Sh.int .i64) (Sh.fst (Sh.cons Sh.bool Sh.nil))))) (Sh.fst (Sh.hrow 0 3 Sh.hnil)))
def c25_0_5 : Pk G ((Int × Int) × List Int × Int × Int × List Int × Int × Int × Int) := (pk (Sh.snd (Sh.cons (Sh.ptr 0 0) (Sh.snd (Sh.cons (Sh.osl 1) (Sh.cons (Sh.int .i64) (Sh.fst (Sh.cons (Sh.int .i64) Sh.nil))))))) (Sh.hrow 1 22 (Sh.fst (Sh.hfix 0 47 (Sh.cons (Sh.int .i64) (Sh.cons (Sh.int .i64) (Sh.cons (Sh.ros 22) (Sh.cons (Sh.int .i64) (Sh.cons (Sh.int .i64) (Sh.fst (Sh.cons (Sh.int .i64) Sh.nil))))))) Sh.hnil))))
def c25_0_11 : Pk G (Int × (List (Int × Int × Int)) × List Int × Int × Int × List Int × Int × Int × Int) := (pk (Sh.snd (Sh.cons (Sh.ptr 0 0) (Sh.snd (Sh.cons (Sh.osl 1) (Sh.snd (Sh.cons (Sh.osl 2) (Sh.fst (Sh.cons (Sh.int .i64) Sh.nil)))))))) (Sh.hrow 2 80 (Sh.hrow 1 22 (Sh.fst (Sh.hfix 0 47 (Sh.cons (Sh.int .i64) (Sh.cons (Sh.int .i64) (Sh.cons (Sh.ros 22) (Sh.cons (Sh.int .i64) (Sh.cons (Sh.int .i64) (Sh.fst (Sh.cons (Sh.int .i64) Sh.nil))))))) Sh.hnil)))))
def c25_0_14 : Pk G ((Int × Int) × (List (Int × Int × Int)) × List Int × Int × Int × List Int × Int × Int × Int) := (pk (Sh.snd (Sh.cons (Sh.ptr 0 0) (Sh.snd (Sh.cons (Sh.osl 1) (Sh.snd (Sh.cons (Sh.osl 2) (Sh.cons (Sh.int .i64) (Sh.fst (Sh.cons (Sh.int .i64) Sh.nil))))))))) (Sh.hrow 2 80 (Sh.hrow 1 22 (Sh.fst (Sh.hfix 0 47 (Sh.cons (Sh.int .i64) (Sh.cons (Sh.int .i64) (Sh.cons (Sh.ros 22) (Sh.cons (Sh.int .i64) (Sh.cons (Sh.int .i64) (Sh.fst (Sh.cons (Sh.int .i64) Sh.nil))))))) Sh.hnil)))))
def c25_0_23 : Pk G (Int × List Int × (List (Int × Int × Int)) × Int × Int × List Int × Int × Int × Int) := (pk (Sh.snd (Sh.cons (Sh.ptr 0 0) (Sh.snd (Sh.cons (Sh.osl 1) (Sh.snd (Sh.cons (Sh.osl 2) (Sh.fst (Sh.cons (Sh.int .i64) Sh.nil)))))))) (Sh.hrow 2 3 (Sh.hrow 1 80 (Sh.fst (Sh.hfix 0 47 (Sh.cons (Sh.int .i64) (Sh.cons (Sh.int .i64) (Sh.cons (Sh.ros 22) (Sh.cons (Sh.int .i64) (Sh.cons (Sh.int .i64) (Sh.fst (Sh.cons (Sh.int .i64) Sh.nil))))))) Sh.hnil)))))
def B25_0_5 (K : (((Int × Int) × List Int × Int × Int × List Int × Int × Int × Int) → Option ((Int × Bool) × List Int)) × ((Int × (List (Int × Int × Int)) × List Int × Int × Int × List Int × Int × Int × Int) → Option ((Int × Bool) × List Int)) × (((Int × Int) × (List (Int × Int × Int)) × List Int × Int × Int × List Int × Int × Int × Int) → Option ((Int × Bool) × List Int)) × ((Int × List Int × (List (Int × Int × Int)) × Int × Int × List Int × Int × Int × Int) → Option ((Int × Bool) × List Int))) (v : (Int × Int) × List Int × Int × Int × List Int × Int × Int × Int) : Option ((Int × Bool) × List Int) :=
  match (decide (v.1.2 < v.1.1)) with
  | true =>
    (F23_0 ((v.2.2.1, (v.2.2.2.1, (v.2.2.2.2.1, (v.2.2.2.2.2.1, (v.2.2.2.2.2.2.1, v.2.2.2.2.2.2.2))))), v.1.2)).bind fun r439 =>
    (idx v.1.2 (v.2.1).length).bind fun (x440 : Nat) =>
    ((v.2.1)[x440]?).bind fun _ =>
    let x442 : List Int := (v.2.1).set x440 (r439)
    let x443 : Int := (IntKind.wrap .i64 (v.1.2 + (1 : Int)))
    K.1 ((v.1.1, x443), (x442, (v.2.2.1, (v.2.2.2.1, (v.2.2.2.2.1, (v.2.2.2.2.2.1, (v.2.2.2.2.2.2.1, v.2.2.2.2.2.2.2)))))))
  | false =>
    let x444 : Int := (IntKind.wrap .i64 (v.2.2.1 + (1 : Int)))
    (chk (decide (0 ≤ x444 ∧ x444 = x444 ∧ x444 * 24 ≤ 140737488355328 ∧ x444 ≤ 9223372036854775807))).bind fun _ =>
    K.2.1 ((1 : Int), ((List.replicate (x444).toNat (((0 : Int), ((0 : Int), (0 : Int))) : Int × Int × Int)), (v.2.1, (v.2.2.1, (v.2.2.2.1, (v.2.2.2.2.1, (v.2.2.2.2.2.1, (v.2.2.2.2.2.2.1, v.2.2.2.2.2.2.2))))))))

def B25_0_11 (K : (((Int × Int) × List Int × Int × Int × List Int × Int × Int × Int) → Option ((Int × Bool) × List Int)) × ((Int × (List (Int × Int × Int)) × List Int × Int × Int × List Int × Int × Int × Int) → Option ((Int × Bool) × List Int)) × (((Int × Int) × (List (Int × Int × Int)) × List Int × Int × Int × List Int × Int × Int × Int) → Option ((Int × Bool) × List Int)) × ((Int × List Int × (List (Int × Int × Int)) × Int × Int × List Int × Int × Int × Int) → Option ((Int × Bool) × List Int))) (v : Int × (List (Int × Int × Int)) × List Int × Int × Int × List Int × Int × Int × Int) : Option ((Int × Bool) × List Int) :=
  match (decide (v.1 ≤ v.2.2.2.1)) with
  | true =>
    K.2.2.1 ((v.1, (1 : Int)), (v.2.1, (v.2.2.1, (v.2.2.2.1, (v.2.2.2.2.1, (v.2.2.2.2.2.1, (v.2.2.2.2.2.2.1, (v.2.2.2.2.2.2.2.1, v.2.2.2.2.2.2.2.2))))))))
  | false =>
    K.2.2.2 ((0 : Int), (([] : List Int), (v.2.1, (v.2.2.2.1, (v.2.2.2.2.1, (v.2.2.2.2.2.1, (v.2.2.2.2.2.2.1, (v.2.2.2.2.2.2.2.1, v.2.2.2.2.2.2.2.2))))))))

def B25_0_14 (K : (((Int × Int) × List Int × Int × Int × List Int × Int × Int × Int) → Option ((Int × Bool) × List Int)) × ((Int × (List (Int × Int × Int)) × List Int × Int × Int × List Int × Int × Int × Int) → Option ((Int × Bool) × List Int)) × (((Int × Int) × (List (Int × Int × Int)) × List Int × Int × Int × List Int × Int × Int × Int) → Option ((Int × Bool) × List Int)) × ((Int × List Int × (List (Int × Int × Int)) × Int × Int × List Int × Int × Int × Int) → Option ((Int × Bool) × List Int))) (v : (Int × Int) × (List (Int × Int × Int)) × List Int × Int × Int × List Int × Int × Int × Int) : Option ((Int × Bool) × List Int) :=
  let x445 : Int := (if v.2.2.2.2.2.2.2.2 < v.1.1 then v.2.2.2.2.2.2.2.2 else v.1.1)
  match (decide (v.1.2 ≤ x445)) with
  | true =>
    (idx v.1.2 (v.2.2.1).length).bind fun (x446 : Nat) =>
    ((v.2.2.1)[x446]?).bind fun (x447 : Int) =>
    let x448 : Int := (IntKind.wrap .i64 (v.1.1 - v.1.2))
    (idx x448 (v.2.1).length).bind fun (x449 : Nat) =>
    ((v.2.1)[x449]?).bind fun (x450 : Int × Int × Int) =>
    let x451 : Int := (IntKind.wrap .i64 (x447 + x450.1))
    let x452 : Int := (IntKind.wrap .i64 (v.1.1 - v.1.2))
    (idx x452 (v.2.1).length).bind fun (x453 : Nat) =>
    ((v.2.1)[x453]?).bind fun (x454 : Int × Int × Int) =>
    let x455 : Int := (IntKind.wrap .i64 (x454.2.1 + (1 : Int)))
    match (decide (v.1.1 > v.1.2)) with
    | true =>
      let x456 : Int := (IntKind.wrap .i64 (x451 + v.2.2.2.2.2.2.2.1))
      match (v.1.2 == (1 : Int)) with
      | true =>
        (idx v.1.1 (v.2.1).length).bind fun (x457 : Nat) =>
        ((v.2.1)[x457]?).bind fun _ =>
        let x459 : List (Int × Int × Int) := (v.2.1).set x457 (x456, (x455, v.1.2))
        let x460 : Int := (IntKind.wrap .i64 (v.1.2 + (1 : Int)))
        K.2.2.1 ((v.1.1, x460), (x459, (v.2.2.1, (v.2.2.2.1, (v.2.2.2.2.1, (v.2.2.2.2.2.1, (v.2.2.2.2.2.2.1, (v.2.2.2.2.2.2.2.1, v.2.2.2.2.2.2.2.2))))))))
      | false =>
        (idx v.1.1 (v.2.1).length).bind fun (x461 : Nat) =>
        ((v.2.1)[x461]?).bind fun (x462 : Int × Int × Int) =>
        (F39_0 ((x456, (x455, v.1.2)), (x462.1, (x462.2.1, x462.2.2)))).bind fun r463 =>
        match r463 with
        | true =>
          (idx v.1.1 (v.2.1).length).bind fun (x464 : Nat) =>
          ((v.2.1)[x464]?).bind fun _ =>
          let x466 : List (Int × Int × Int) := (v.2.1).set x464 (x456, (x455, v.1.2))
          let x467 : Int := (IntKind.wrap .i64 (v.1.2 + (1 : Int)))
          K.2.2.1 ((v.1.1, x467), (x466, (v.2.2.1, (v.2.2.2.1, (v.2.2.2.2.1, (v.2.2.2.2.2.1, (v.2.2.2.2.2.2.1, (v.2.2.2.2.2.2.2.1, v.2.2.2.2.2.2.2.2))))))))
        | false =>
          let x468 : Int := (IntKind.wrap .i64 (v.1.2 + (1 : Int)))
          K.2.2.1 ((v.1.1, x468), (v.2.1, (v.2.2.1, (v.2.2.2.1, (v.2.2.2.2.1, (v.2.2.2.2.2.1, (v.2.2.2.2.2.2.1, (v.2.2.2.2.2.2.2.1, v.2.2.2.2.2.2.2.2))))))))
    | false =>
      match (v.1.2 == (1 : Int)) with
      | true =>
        (idx v.1.1 (v.2.1).length).bind fun (x469 : Nat) =>
        ((v.2.1)[x469]?).bind fun _ =>
        let x471 : List (Int × Int × Int) := (v.2.1).set x469 (x451, (x455, v.1.2))
        let x472 : Int := (IntKind.wrap .i64 (v.1.2 + (1 : Int)))
        K.2.2.1 ((v.1.1, x472), (x471, (v.2.2.1, (v.2.2.2.1, (v.2.2.2.2.1, (v.2.2.2.2.2.1, (v.2.2.2.2.2.2.1, (v.2.2.2.2.2.2.2.1, v.2.2.2.2.2.2.2.2))))))))
      | false =>
        (idx v.1.1 (v.2.1).length).bind fun (x473 : Nat) =>
        ((v.2.1)[x473]?).bind fun (x474 : Int × Int × Int) =>
        (F39_0 ((x451, (x455, v.1.2)), (x474.1, (x474.2.1, x474.2.2)))).bind fun r475 =>
        match r475 with
        | true =>
          (idx v.1.1 (v.2.1).length).bind fun (x476 : Nat) =>
          ((v.2.1)[x476]?).bind fun _ =>
          let x478 : List (Int × Int × Int) := (v.2.1).set x476 (x451, (x455, v.1.2))
          let x479 : Int := (IntKind.wrap .i64 (v.1.2 + (1 : Int)))
          K.2.2.1 ((v.1.1, x479), (x478, (v.2.2.1, (v.2.2.2.1, (v.2.2.2.2.1, (v.2.2.2.2.2.1, (v.2.2.2.2.2.2.1, (v.2.2.2.2.2.2.2.1, v.2.2.2.2.2.2.2.2))))))))
        | false =>
          let x480 : Int := (IntKind.wrap .i64 (v.1.2 + (1 : Int)))
          K.2.2.1 ((v.1.1, x480), (v.2.1, (v.2.2.1, (v.2.2.2.1, (v.2.2.2.2.1, (v.2.2.2.2.2.1, (v.2.2.2.2.2.2.1, (v.2.2.2.2.2.2.2.1, v.2.2.2.2.2.2.2.2))))))))
  | false =>
    let x481 : Int := (IntKind.wrap .i64 (v.1.1 + (1 : Int)))
    K.2.1 (x481, (v.2.1, (v.2.2.1, (v.2.2.2.1, (v.2.2.2.2.1, (v.2.2.2.2.2.1, (v.2.2.2.2.2.2.1, (v.2.2.2.2.2.2.2.1, v.2.2.2.2.2.2.2.2))))))))

def B25_0_23 (K : (((Int × Int) × List Int × Int × Int × List Int × Int × Int × Int) → Option ((Int × Bool) × List Int)) × ((Int × (List (Int × Int × Int)) × List Int × Int × Int × List Int × Int × Int × Int) → Option ((Int × Bool) × List Int)) × (((Int × Int) × (List (Int × Int × Int)) × List Int × Int × Int × List Int × Int × Int × Int) → Option ((Int × Bool) × List Int)) × ((Int × List Int × (List (Int × Int × Int)) × Int × Int × List Int × Int × Int × Int) → Option ((Int × Bool) × List Int))) (v : Int × List Int × (List (Int × Int × Int)) × Int × Int × List Int × Int × Int × Int) : Option ((Int × Bool) × List Int) :=
  match (decide (v.1 < v.2.2.2.1)) with
  | true =>
    match (decide (v.1 > (0 : Int))) with
    | true =>
      (chk (decide (((v.2.1).length + (([v.1] : List Int)).length) * 8 ≤ 140737488355328))).bind fun _ =>
      let x482 : List Int := (v.2.1 ++ ([v.1] : List Int))
      let x483 : Int := (IntKind.wrap .i64 (v.2.2.2.1 - v.1))
      (idx x483 (v.2.2.1).length).bind fun (x484 : Nat) =>
      ((v.2.2.1)[x484]?).bind fun (x485 : Int × Int × Int) =>
      let x486 : Int := (IntKind.wrap .i64 (v.1 + x485.2.2))
      K.2.2.2 (x486, (x482, (v.2.2.1, (v.2.2.2.1, (v.2.2.2.2.1, (v.2.2.2.2.2.1, (v.2.2.2.2.2.2.1, (v.2.2.2.2.2.2.2.1, v.2.2.2.2.2.2.2.2))))))))
    | false =>
      let x487 : Int := (IntKind.wrap .i64 (v.2.2.2.1 - v.1))
      (idx x487 (v.2.2.1).length).bind fun (x488 : Nat) =>
      ((v.2.2.1)[x488]?).bind fun (x489 : Int × Int × Int) =>
      let x490 : Int := (IntKind.wrap .i64 (v.1 + x489.2.2))
      K.2.2.2 (x490, (v.2.1, (v.2.2.1, (v.2.2.2.1, (v.2.2.2.2.1, (v.2.2.2.2.2.1, (v.2.2.2.2.2.2.1, (v.2.2.2.2.2.2.2.1, v.2.2.2.2.2.2.2.2))))))))
  | false =>
    (idx v.2.2.2.1 (v.2.2.1).length).bind fun (x491 : Nat) =>
    ((v.2.2.1)[x491]?).bind fun (x492 : Int × Int × Int) =>
    some ((x492.1, true), v.2.1)

def E25_0 (K : (((Int × Int) × List Int × Int × Int × List Int × Int × Int × Int) → Option ((Int × Bool) × List Int)) × ((Int × (List (Int × Int × Int)) × List Int × Int × Int × List Int × Int × Int × Int) → Option ((Int × Bool) × List Int)) × (((Int × Int) × (List (Int × Int × Int)) × List Int × Int × Int × List Int × Int × Int × Int) → Option ((Int × Bool) × List Int)) × ((Int × List Int × (List (Int × Int × Int)) × Int × Int × List Int × Int × Int × Int) → Option ((Int × Bool) × List Int))) (v : Int × Int × List Int × Int × Int × Int) : Option ((Int × Bool) × List Int) :=
  (F20_0 (v.1, (v.2.1, (v.2.2.1, (v.2.2.2.1, (v.2.2.2.2.1, v.2.2.2.2.2)))))).bind fun r437 =>
  match (r437 != (0 : Int)) with
  | true =>
    some (((0 : Int), false), ([] : List Int))
  | false =>
    let x438 : Int := (IntKind.wrap .i64 (v.1 + (1 : Int)))
    (chk (decide (0 ≤ x438 ∧ x438 = x438 ∧ x438 * 8 ≤ 140737488355328 ∧ x438 ≤ 9223372036854775807))).bind fun _ =>
    K.1 (((((List.replicate (x438).toNat ((0 : Int) : Int))).length : Int), (0 : Int)), ((List.replicate (x438).toNat ((0 : Int) : Int)), (v.1, (v.2.1, (v.2.2.1, (v.2.2.2.1, (v.2.2.2.2.1, v.2.2.2.2.2)))))))

def K25_0 : Nat → (((Int × Int) × List Int × Int × Int × List Int × Int × Int × Int) → Option ((Int × Bool) × List Int)) × ((Int × (List (Int × Int × Int)) × List Int × Int × Int × List Int × Int × Int × Int) → Option ((Int × Bool) × List Int)) × (((Int × Int) × (List (Int × Int × Int)) × List Int × Int × Int × List Int × Int × Int × Int) → Option ((Int × Bool) × List Int)) × ((Int × List Int × (List (Int × Int × Int)) × Int × Int × List Int × Int × Int × Int) → Option ((Int × Bool) × List Int))
  | 0 => (fun _ => none, fun _ => none, fun _ => none, fun _ => none)
  | n + 1 => (B25_0_5 (K25_0 n), B25_0_11 (K25_0 n), B25_0_14 (K25_0 n), B25_0_23 (K25_0 n))
def fuel25_0 (v : Int × Int × List Int × Int × Int × Int) : Nat := 20000
def F25_0 (v : Int × Int × List Int × Int × Int × Int) : Option ((Int × Bool) × List Int) := E25_0 (K25_0 (fuel25_0 v)) v
noncomputable def k25_0 : List (Known Try.prog E) := [Known.of envOk [9] [(.agg [.keep, .keep, (.ros 22), .keep, .keep, .keep])] v20_0 F20_0 w20_0 ok20_0, Known.of envOk [9, 1] [(.agg [.keep, .keep, (.ros 22), .keep, .keep, .keep]), .keep] v23_0 F23_0 w23_0 ok23_0, Known.of envOk [9, 9] [(.agg [.keep, .keep, .keep]), (.agg [.keep, .keep, .keep])] v39_0 F39_0 w39_0 ok39_0]
def s25_0_23 : List (Nat × Pat) := [(1, (.ptr 0 0 47 [.keep, .keep, (.ros 22), .keep, .keep, .keep])), (7, (.own 1 80)), (11, (.own 2 3)), (12, .keep)]
def s25_0_14 : List (Nat × Pat) := [(1, (.ptr 0 0 47 [.keep, .keep, (.ros 22), .keep, .keep, .keep])), (5, (.own 1 22)), (7, (.own 2 80)), (8, .keep), (9, .keep)]
def s25_0_11 : List (Nat × Pat) := [(1, (.ptr 0 0 47 [.keep, .keep, (.ros 22), .keep, .keep, .keep])), (5, (.own 1 22)), (7, (.own 2 80)), (8, .keep)]
def s25_0_5 : List (Nat × Pat) := [(1, (.ptr 0 0 47 [.keep, .keep, (.ros 22), .keep, .keep, .keep])), (5, (.own 1 22)), (21, .keep), (22, .keep)]
noncomputable def L25_0 (n id : Nat) (st : St G) : Option ((Int × Bool) × List Int) := match Nat.beq id 5 with | true => cutK Try.prog s25_0_5 [] c25_0_5.dec (K25_0 n).1 st | false => match Nat.beq id 11 with | true => cutK Try.prog s25_0_11 [] c25_0_11.dec (K25_0 n).2.1 st | false => match Nat.beq id 14 with | true => cutK Try.prog s25_0_14 [] c25_0_14.dec (K25_0 n).2.2.1 st | false => match Nat.beq id 23 with | true => cutK Try.prog s25_0_23 [] c25_0_23.dec (K25_0 n).2.2.2 st | false => none
set_option maxRecDepth 100000 in
theorem e25_0 (n : Nat) (v : Int × Int × List Int × Int × Int × Int) : ev Try.prog E (oracle k25_0) Try.f25.ntmps (fun x => mem x [5, 11, 14, 23]) (L25_0 n) (finK Try.prog E Try.f25.results.toList [(.own 0 3), .keep, .keep] [] w25_0.dec) 4000 [.code (Try.f25.body.getD .skip)] (argSt (v25_0.enc v)) = E25_0 (K25_0 n) v := by kernel_rfl
set_option maxRecDepth 100000 in
theorem b25_0_5 (n : Nat) (v : (Int × Int) × List Int × Int × Int × List Int × Int × Int × Int) : evCut Try.prog E (oracle k25_0) Try.f25.ntmps (fun x => mem x [5, 11, 14, 23]) (L25_0 n) (finK Try.prog E Try.f25.results.toList [(.own 0 3), .keep, .keep] [] w25_0.dec) 4000 (todoAt (Try.f25.body.getD .skip) 5) (cutSt s25_0_5 (c25_0_5.enc v)) = B25_0_5 (K25_0 n) v := by kernel_rfl
set_option maxRecDepth 100000 in
theorem b25_0_11 (n : Nat) (v : Int × (List (Int × Int × Int)) × List Int × Int × Int × List Int × Int × Int × Int) : evCut Try.prog E (oracle k25_0) Try.f25.ntmps (fun x => mem x [5, 11, 14, 23]) (L25_0 n) (finK Try.prog E Try.f25.results.toList [(.own 0 3), .keep, .keep] [] w25_0.dec) 4000 (todoAt (Try.f25.body.getD .skip) 11) (cutSt s25_0_11 (c25_0_11.enc v)) = B25_0_11 (K25_0 n) v := by kernel_rfl
set_option maxRecDepth 100000 in
theorem b25_0_14 (n : Nat) (v : (Int × Int) × (List (Int × Int × Int)) × List Int × Int × Int × List Int × Int × Int × Int) : evCut Try.prog E (oracle k25_0) Try.f25.ntmps (fun x => mem x [5, 11, 14, 23]) (L25_0 n) (finK Try.prog E Try.f25.results.toList [(.own 0 3), .keep, .keep] [] w25_0.dec) 4000 (todoAt (Try.f25.body.getD .skip) 14) (cutSt s25_0_14 (c25_0_14.enc v)) = B25_0_14 (K25_0 n) v := by kernel_rfl
set_option maxRecDepth 100000 in
theorem b25_0_23 (n : Nat) (v : Int × List Int × (List (Int × Int × Int)) × Int × Int × List Int × Int × Int × Int) : evCut Try.prog E (oracle k25_0) Try.f25.ntmps (fun x => mem x [5, 11, 14, 23]) (L25_0 n) (finK Try.prog E Try.f25.results.toList [(.own 0 3), .keep, .keep] [] w25_0.dec) 4000 (todoAt (Try.f25.body.getD .skip) 23) (cutSt s25_0_23 (c25_0_23.enc v)) = B25_0_23 (K25_0 n) v := by kernel_rfl
theorem ok25_0 : FnOk Try.prog E 25 v25_0.enc F25_0 w25_0.enc :=
  fn_known (fn := Try.f25) (c := (Try.f25.body.getD .skip)) Try.func25 (by kernel_rfl) rfl envOk (oracle_ok k25_0) mixed v25_0 F25_0 w25_0 [(.own 0 3), .keep, .keep] [] [5, 11, 14, 23] 4000 L25_0 (by kernel_rfl)
    (List.forall_mem_cons.2 ⟨⟨_, s25_0_5, c25_0_5.dec, c25_0_5.enc, fun n => (K25_0 n).1, c25_0_5.ok, fun _ _ => rfl, fun _ => rfl, fun n v _ h => (b25_0_5 n v).trans h⟩, List.forall_mem_cons.2 ⟨⟨_, s25_0_11, c25_0_11.dec, c25_0_11.enc, fun n => (K25_0 n).2.1, c25_0_11.ok, fun _ _ => rfl, fun _ => rfl, fun n v _ h => (b25_0_11 n v).trans h⟩, List.forall_mem_cons.2 ⟨⟨_, s25_0_14, c25_0_14.dec, c25_0_14.enc, fun n => (K25_0 n).2.2.1, c25_0_14.ok, fun _ _ => rfl, fun _ => rfl, fun n v _ h => (b25_0_14 n v).trans h⟩, List.forall_mem_cons.2 ⟨⟨_, s25_0_23, c25_0_23.dec, c25_0_23.enc, fun n => (K25_0 n).2.2.2, c25_0_23.ok, fun _ _ => rfl, fun _ => rfl, fun n v _ h => (b25_0_23 n v).trans h⟩, fun _ h => (nomatch h)⟩⟩⟩⟩) (fun v _ h => ⟨fuel25_0 v, (e25_0 _ v).trans h⟩) (fun _ => by kernel_rfl) (fun _ => by kernel_rfl) (fun _ _ => by kernel_rfl)
/- chicane/chicanelaw16.Ints -/
def v27_0 : Pk G (List Int × List Int) := (Pk.fst (pk (Sh.cons (Sh.ros 3) (Sh.fst (Sh.cons (Sh.ros 3) Sh.nil))) Sh.hnil))
def w27_0 : Pk G Bool := (Pk.fst (pk (Sh.fst (Sh.cons Sh.bool Sh.nil)) Sh.hnil))
def c27_0_4 : Pk G (List Int × List Int × Int) := (Pk.fst (pk (Sh.cons (Sh.ros 3) (Sh.cons (Sh.ros 3) (Sh.fst (Sh.cons (Sh.int .i64) Sh.nil)))) Sh.hnil))
def B27_0_4 (K : ((List Int × List Int × Int) → Option Bool)) (v : List Int × List Int × Int) : Option Bool :=
  match (decide (v.2.2 < ((v.1).length : Int))) with
  | true =>
    (rdx v.1 v.2.2).bind fun (x503 : Int) =>
    (rdx v.2.1 v.2.2).bind fun (x504 : Int) =>
    match (x503 != x504) with
    | true =>
      some (false)
    | false =>
      let x505 : Int := (IntKind.wrap .i64 (v.2.2 + (1 : Int)))
      K (v.1, (v.2.1, x505))
  | false =>
    some (true)

def E27_0 (K : ((List Int × List Int × Int) → Option Bool)) (v : List Int × List Int) : Option Bool :=
  match (((v.1).length : Int) != ((v.2).length : Int)) with
  | true =>
    some (false)
  | false =>
    K (v.1, (v.2, (0 : Int)))

def K27_0 : Nat → ((List Int × List Int × Int) → Option Bool)
  | 0 => (fun _ => none)
  | n + 1 => (B27_0_4 (K27_0 n))
def fuel27_0 (v : List Int × List Int) : Nat := 1000
def F27_0 (v : List Int × List Int) : Option Bool := E27_0 (K27_0 (fuel27_0 v)) v
noncomputable def k27_0 : List (Known Try.prog E) := []
def s27_0_4 : List (Nat × Pat) := [(0, (.ros 3)), (1, (.ros 3)), (5, .keep)]
noncomputable def L27_0 (n id : Nat) (st : St G) : Option Bool := match Nat.beq id 4 with | true => cutK Try.prog s27_0_4 [] c27_0_4.dec (K27_0 n) st | false => none
set_option maxRecDepth 100000 in
theorem e27_0 (n : Nat) (v : List Int × List Int) : ev Try.prog E (oracle k27_0) Try.f27.ntmps (fun x => mem x [4]) (L27_0 n) (finK Try.prog E Try.f27.results.toList [.keep] [] w27_0.dec) 4000 [.code (Try.f27.body.getD .skip)] (argSt (v27_0.enc v)) = E27_0 (K27_0 n) v := by kernel_rfl
set_option maxRecDepth 100000 in
theorem b27_0_4 (n : Nat) (v : List Int × List Int × Int) : evCut Try.prog E (oracle k27_0) Try.f27.ntmps (fun x => mem x [4]) (L27_0 n) (finK Try.prog E Try.f27.results.toList [.keep] [] w27_0.dec) 4000 (todoAt (Try.f27.body.getD .skip) 4) (cutSt s27_0_4 (c27_0_4.enc v)) = B27_0_4 (K27_0 n) v := by kernel_rfl
theorem ok27_0 : FnOk Try.prog E 27 v27_0.enc F27_0 w27_0.enc :=
  fn_known (fn := Try.f27) (c := (Try.f27.body.getD .skip)) Try.func27 (by kernel_rfl) rfl envOk (oracle_ok k27_0) mixed v27_0 F27_0 w27_0 [.keep] [] [4] 4000 L27_0 (by kernel_rfl)
    (List.forall_mem_cons.2 ⟨⟨_, s27_0_4, c27_0_4.dec, c27_0_4.enc, fun n => (K27_0 n), c27_0_4.ok, fun _ _ => rfl, fun _ => rfl, fun n v _ h => (b27_0_4 n v).trans h⟩, fun _ h => (nomatch h)⟩) (fun v _ h => ⟨fuel27_0 v, (e27_0 _ v).trans h⟩) (fun _ => by kernel_rfl) (fun _ => by kernel_rfl) (fun _ _ => by kernel_rfl)
/- chicane/chicanelaw47.awake -/
def v22_0 : Pk G Unit := (Pk.snd (pk Sh.nil Sh.hnil))
def w22_0 : Pk G Bool := (Pk.fst (pk (Sh.fst (Sh.cons Sh.bool Sh.nil)) Sh.hnil))
def F22_0 (v : Unit) : Option Bool :=
  (F25_0 ((2 : Int), ((10 : Int), (([(0 : Int), (9 : Int)] : List Int), ((0 : Int), ((5 : Int), (9 : Int))))))).bind fun r512 =>
  (F17_0 (((2 : Int), ((10 : Int), (([(0 : Int), (9 : Int)] : List Int), ((0 : Int), ((5 : Int), (9 : Int)))))), ([] : List Int))).bind fun r513 =>
  (F27_0 (r512.2, ([(1 : Int)] : List Int))).bind fun r514 =>
  match r514 with
  | true =>
    match (r512.1.1 == (25 : Int)) with
    | true =>
      match r512.1.2 with
      | true =>
        match (r513.1 == (29 : Int)) with
        | true =>
          match r513.2 with
          | true =>
            (F20_0 ((0 : Int), ((0 : Int), (([] : List Int), ((0 : Int), ((0 : Int), (0 : Int))))))).bind fun r515 =>
            some (r515 == (40 : Int))
          | false =>
            some (false)
        | false =>
          some (false)
      | false =>
        some (false)
    | false =>
      some (false)
  | false =>
    some (false)

noncomputable def k22_0 : List (Known Try.prog E) := [Known.of envOk [9] [(.agg [.keep, .keep, (.ros 22), .keep, .keep, .keep])] v25_0 F25_0 w25_0 ok25_0, Known.of envOk [9, 7] [(.agg [.keep, .keep, (.ros 22), .keep, .keep, .keep]), (.ros 3)] v17_0 F17_0 w17_0 ok17_0, Known.of envOk [7, 7] [(.ros 3), (.ros 3)] v27_0 F27_0 w27_0 ok27_0, Known.of envOk [9] [(.agg [.keep, .keep, (.ros 22), .keep, .keep, .keep])] v20_0 F20_0 w20_0 ok20_0]
noncomputable def L22_0 (n id : Nat) (st : St G) : Option Bool := none
set_option maxRecDepth 100000 in
theorem e22_0 (n : Nat) (v : Unit) : ev Try.prog E (oracle k22_0) Try.f22.ntmps (fun x => mem x []) (L22_0 n) (finK Try.prog E Try.f22.results.toList [.keep] [] w22_0.dec) 4000 [.code (Try.f22.body.getD .skip)] (argSt (v22_0.enc v)) = F22_0 v := by kernel_rfl
theorem ok22_0 : FnOk Try.prog E 22 v22_0.enc F22_0 w22_0.enc :=
  fn_known (fn := Try.f22) (c := (Try.f22.body.getD .skip)) Try.func22 (by kernel_rfl) rfl envOk (oracle_ok k22_0) mixed v22_0 F22_0 w22_0 [.keep] [] [] 4000 L22_0 (by kernel_rfl)
    (fun _ h => nomatch h) (fun v _ h => ⟨0, (e22_0 _ v).trans h⟩) (fun _ => by kernel_rfl) (fun _ => by kernel_rfl) (fun _ _ => by kernel_rfl)
/- chicane/chicanelaw47.PlanTimes -/
def v5_0 : Pk G ((Int × Int × List Int × Int × Int × Int) × List Int) := (Pk.fst (pk (Sh.cons (Sh.agg (Sh.cons (Sh.int .i64) (Sh.cons (Sh.int .i64) (Sh.cons (Sh.ros 22) (Sh.cons (Sh.int .i64) (Sh.cons (Sh.int .i64) (Sh.fst (Sh.cons (Sh.int .i64) Sh.nil)))))))) (Sh.fst (Sh.cons (Sh.ros 3) Sh.nil))) Sh.hnil))
def w5_0 : Pk G Bool := (Pk.fst (pk (Sh.fst (Sh.cons Sh.bool Sh.nil)) Sh.hnil))
def c5_0_10 : Pk G (Int × Int × Int × List Int × Int × Int × Int) := (pk (Sh.snd (Sh.cons (Sh.ptr 0 0) (Sh.fst (Sh.cons (Sh.int .i64) Sh.nil)))) (Sh.fst (Sh.hfix 0 47 (Sh.cons (Sh.int .i64) (Sh.cons (Sh.int .i64) (Sh.cons (Sh.ros 22) (Sh.cons (Sh.int .i64) (Sh.cons (Sh.int .i64) (Sh.fst (Sh.cons (Sh.int .i64) Sh.nil))))))) Sh.hnil)))
def B5_0_10 (K : ((Int × Int × Int × List Int × Int × Int × Int) → Option Bool)) (v : Int × Int × Int × List Int × Int × Int × Int) : Option Bool :=
  match (decide (v.1 < (103 : Int))) with
  | true =>
    (F23_0 ((v.2.1, (v.2.2.1, (v.2.2.2.1, (v.2.2.2.2.1, (v.2.2.2.2.2.1, v.2.2.2.2.2.2))))), v.1)).bind fun r547 =>
    (F19_0 (v.2.1, (v.2.2.1, (v.2.2.2.1, (v.2.2.2.2.1, (v.2.2.2.2.2.1, v.2.2.2.2.2.2)))))).bind fun r548 =>
    (F24_0 ((r548.1, (r548.2.1, (r548.2.2.1, (r548.2.2.2.1, (r548.2.2.2.2.1, r548.2.2.2.2.2))))), v.1)).bind fun r549 =>
    match (r547 != r549) with
    | true =>
      some (false)
    | false =>
      let x550 : Int := (IntKind.wrap .i64 (v.1 + (1 : Int)))
      K (x550, (v.2.1, (v.2.2.1, (v.2.2.2.1, (v.2.2.2.2.1, (v.2.2.2.2.2.1, v.2.2.2.2.2.2))))))
  | false =>
    (F22_0 ()).bind fun r551 =>
    some (r551)

def E5_0 (K : ((Int × Int × Int × List Int × Int × Int × Int) → Option Bool)) (v : (Int × Int × List Int × Int × Int × Int) × List Int) : Option Bool :=
  (F16_0 (v.1.1, (v.1.2.1, (v.1.2.2.1, (v.1.2.2.2.1, (v.1.2.2.2.2.1, v.1.2.2.2.2.2)))))).bind fun r538 =>
  match (!r538) with
  | true =>
    some (true)
  | false =>
    match (decide (((v.2).length : Int) > (200 : Int))) with
    | true =>
      some (true)
    | false =>
      (F17_0 ((v.1.1, (v.1.2.1, (v.1.2.2.1, (v.1.2.2.2.1, (v.1.2.2.2.2.1, v.1.2.2.2.2.2))))), v.2)).bind fun r539 =>
      (F19_0 (v.1.1, (v.1.2.1, (v.1.2.2.1, (v.1.2.2.2.1, (v.1.2.2.2.2.1, v.1.2.2.2.2.2)))))).bind fun r540 =>
      (F18_0 ((r540.1, (r540.2.1, (r540.2.2.1, (r540.2.2.2.1, (r540.2.2.2.2.1, r540.2.2.2.2.2))))), v.2)).bind fun r541 =>
      (F20_0 (v.1.1, (v.1.2.1, (v.1.2.2.1, (v.1.2.2.2.1, (v.1.2.2.2.2.1, v.1.2.2.2.2.2)))))).bind fun r542 =>
      (F19_0 (v.1.1, (v.1.2.1, (v.1.2.2.1, (v.1.2.2.2.1, (v.1.2.2.2.2.1, v.1.2.2.2.2.2)))))).bind fun r543 =>
      (F21_0 (r543.1, (r543.2.1, (r543.2.2.1, (r543.2.2.2.1, (r543.2.2.2.2.1, r543.2.2.2.2.2)))))).bind fun r544 =>
      match (r542 != r544) with
      | true =>
        some (false)
      | false =>
        match (r539.1 != r541.1) with
        | true =>
          some (false)
        | false =>
          match (!(r539.2 == r541.2)) with
          | true =>
            some (false)
          | false =>
            (F20_0 (v.1.1, (v.1.2.1, (v.1.2.2.1, (v.1.2.2.2.1, (v.1.2.2.2.2.1, v.1.2.2.2.2.2)))))).bind fun r545 =>
            match (r545 != (0 : Int)) with
            | true =>
              (F22_0 ()).bind fun r546 =>
              some (r546)
            | false =>
              K ((-1 : Int), (v.1.1, (v.1.2.1, (v.1.2.2.1, (v.1.2.2.2.1, (v.1.2.2.2.2.1, v.1.2.2.2.2.2))))))

def K5_0 : Nat → ((Int × Int × Int × List Int × Int × Int × Int) → Option Bool)
  | 0 => (fun _ => none)
  | n + 1 => (B5_0_10 (K5_0 n))
def fuel5_0 (v : (Int × Int × List Int × Int × Int × Int) × List Int) : Nat := 1000
def F5_0 (v : (Int × Int × List Int × Int × Int × Int) × List Int) : Option Bool := E5_0 (K5_0 (fuel5_0 v)) v
noncomputable def k5_0 : List (Known Try.prog E) := [Known.of envOk [9] [(.agg [.keep, .keep, (.ros 22), .keep, .keep, .keep])] v16_0 F16_0 w16_0 ok16_0, Known.of envOk [9, 7] [(.agg [.keep, .keep, (.ros 22), .keep, .keep, .keep]), (.ros 3)] v17_0 F17_0 w17_0 ok17_0, Known.of envOk [9] [(.agg [.keep, .keep, (.ros 22), .keep, .keep, .keep])] v19_0 F19_0 w19_0 ok19_0, Known.of envOk [9, 7] [(.agg [.keep, .keep, (.ros 22), .keep, .keep, .keep]), (.ros 3)] v18_0 F18_0 w18_0 ok18_0, Known.of envOk [9] [(.agg [.keep, .keep, (.ros 22), .keep, .keep, .keep])] v20_0 F20_0 w20_0 ok20_0, Known.of envOk [9] [(.agg [.keep, .keep, (.ros 22), .keep, .keep, .keep])] v21_0 F21_0 w21_0 ok21_0, Known.of envOk [] [] v22_0 F22_0 w22_0 ok22_0, Known.of envOk [9, 1] [(.agg [.keep, .keep, (.ros 22), .keep, .keep, .keep]), .keep] v23_0 F23_0 w23_0 ok23_0, Known.of envOk [9, 1] [(.agg [.keep, .keep, (.ros 22), .keep, .keep, .keep]), .keep] v24_0 F24_0 w24_0 ok24_0]
def s5_0_10 : List (Nat × Pat) := [(2, (.ptr 0 0 47 [.keep, .keep, (.ros 22), .keep, .keep, .keep])), (9, .keep)]
noncomputable def L5_0 (n id : Nat) (st : St G) : Option Bool := match Nat.beq id 10 with | true => cutK Try.prog s5_0_10 [] c5_0_10.dec (K5_0 n) st | false => none
set_option maxRecDepth 100000 in
theorem e5_0 (n : Nat) (v : (Int × Int × List Int × Int × Int × Int) × List Int) : ev Try.prog E (oracle k5_0) Try.f5.ntmps (fun x => mem x [10]) (L5_0 n) (finK Try.prog E Try.f5.results.toList [.keep] [] w5_0.dec) 4000 [.code (Try.f5.body.getD .skip)] (argSt (v5_0.enc v)) = E5_0 (K5_0 n) v := by kernel_rfl
set_option maxRecDepth 100000 in
theorem b5_0_10 (n : Nat) (v : Int × Int × Int × List Int × Int × Int × Int) : evCut Try.prog E (oracle k5_0) Try.f5.ntmps (fun x => mem x [10]) (L5_0 n) (finK Try.prog E Try.f5.results.toList [.keep] [] w5_0.dec) 4000 (todoAt (Try.f5.body.getD .skip) 10) (cutSt s5_0_10 (c5_0_10.enc v)) = B5_0_10 (K5_0 n) v := by kernel_rfl
theorem ok5_0 : FnOk Try.prog E 5 v5_0.enc F5_0 w5_0.enc :=
  fn_known (fn := Try.f5) (c := (Try.f5.body.getD .skip)) Try.func5 (by kernel_rfl) rfl envOk (oracle_ok k5_0) mixed v5_0 F5_0 w5_0 [.keep] [] [10] 4000 L5_0 (by kernel_rfl)
    (List.forall_mem_cons.2 ⟨⟨_, s5_0_10, c5_0_10.dec, c5_0_10.enc, fun n => (K5_0 n), c5_0_10.ok, fun _ _ => rfl, fun _ => rfl, fun n v _ h => (b5_0_10 n v).trans h⟩, fun _ h => (nomatch h)⟩) (fun v _ h => ⟨fuel5_0 v, (e5_0 _ v).trans h⟩) (fun _ => by kernel_rfl) (fun _ => by kernel_rfl) (fun _ _ => by kernel_rfl)
/- chicane/chicaneref47.better -/
def v40_0 : Pk G (List Int × Int × List Int × Int) := (Pk.fst (pk (Sh.cons (Sh.ros 3) (Sh.cons (Sh.int .i64) (Sh.cons (Sh.ros 3) (Sh.fst (Sh.cons (Sh.int .i64) Sh.nil))))) Sh.hnil))
def w40_0 : Pk G Bool := (Pk.fst (pk (Sh.fst (Sh.cons Sh.bool Sh.nil)) Sh.hnil))
def c40_0_6 : Pk G (List Int × List Int × Int) := (Pk.fst (pk (Sh.cons (Sh.ros 3) (Sh.cons (Sh.ros 3) (Sh.fst (Sh.cons (Sh.int .i64) Sh.nil)))) Sh.hnil))
def B40_0_6 (K : ((List Int × List Int × Int) → Option Bool)) (v : List Int × List Int × Int) : Option Bool :=
  match (decide (v.2.2 < ((v.1).length : Int))) with
  | true =>
    (rdx v.1 v.2.2).bind fun (x582 : Int) =>
    (rdx v.2.1 v.2.2).bind fun (x583 : Int) =>
    match (x582 != x583) with
    | true =>
      (rdx v.1 v.2.2).bind fun (x584 : Int) =>
      (rdx v.2.1 v.2.2).bind fun (x585 : Int) =>
      some (decide (x584 > x585))
    | false =>
      let x586 : Int := (IntKind.wrap .i64 (v.2.2 + (1 : Int)))
      K (v.1, (v.2.1, x586))
  | false =>
    some (false)

def E40_0 (K : ((List Int × List Int × Int) → Option Bool)) (v : List Int × Int × List Int × Int) : Option Bool :=
  match (v.2.1 != v.2.2.2) with
  | true =>
    some (decide (v.2.1 < v.2.2.2))
  | false =>
    match (((v.1).length : Int) != ((v.2.2.1).length : Int)) with
    | true =>
      some (decide (((v.1).length : Int) < ((v.2.2.1).length : Int)))
    | false =>
      K (v.1, (v.2.2.1, (0 : Int)))

def K40_0 : Nat → ((List Int × List Int × Int) → Option Bool)
  | 0 => (fun _ => none)
  | n + 1 => (B40_0_6 (K40_0 n))
def fuel40_0 (v : List Int × Int × List Int × Int) : Nat := 1000
def F40_0 (v : List Int × Int × List Int × Int) : Option Bool := E40_0 (K40_0 (fuel40_0 v)) v
noncomputable def k40_0 : List (Known Try.prog E) := []
def s40_0_6 : List (Nat × Pat) := [(0, (.ros 3)), (2, (.ros 3)), (9, .keep)]
noncomputable def L40_0 (n id : Nat) (st : St G) : Option Bool := match Nat.beq id 6 with | true => cutK Try.prog s40_0_6 [] c40_0_6.dec (K40_0 n) st | false => none
set_option maxRecDepth 100000 in
theorem e40_0 (n : Nat) (v : List Int × Int × List Int × Int) : ev Try.prog E (oracle k40_0) Try.f40.ntmps (fun x => mem x [6]) (L40_0 n) (finK Try.prog E Try.f40.results.toList [.keep] [] w40_0.dec) 4000 [.code (Try.f40.body.getD .skip)] (argSt (v40_0.enc v)) = E40_0 (K40_0 n) v := by kernel_rfl
set_option maxRecDepth 100000 in
theorem b40_0_6 (n : Nat) (v : List Int × List Int × Int) : evCut Try.prog E (oracle k40_0) Try.f40.ntmps (fun x => mem x [6]) (L40_0 n) (finK Try.prog E Try.f40.results.toList [.keep] [] w40_0.dec) 4000 (todoAt (Try.f40.body.getD .skip) 6) (cutSt s40_0_6 (c40_0_6.enc v)) = B40_0_6 (K40_0 n) v := by kernel_rfl
theorem ok40_0 : FnOk Try.prog E 40 v40_0.enc F40_0 w40_0.enc :=
  fn_known (fn := Try.f40) (c := (Try.f40.body.getD .skip)) Try.func40 (by kernel_rfl) rfl envOk (oracle_ok k40_0) mixed v40_0 F40_0 w40_0 [.keep] [] [6] 4000 L40_0 (by kernel_rfl)
    (List.forall_mem_cons.2 ⟨⟨_, s40_0_6, c40_0_6.dec, c40_0_6.enc, fun n => (K40_0 n), c40_0_6.ok, fun _ _ => rfl, fun _ => rfl, fun n v _ h => (b40_0_6 n v).trans h⟩, fun _ h => (nomatch h)⟩) (fun v _ h => ⟨fuel40_0 v, (e40_0 _ v).trans h⟩) (fun _ => by kernel_rfl) (fun _ => by kernel_rfl) (fun _ _ => by kernel_rfl)
/- chicane/chicaneref47.Best -/
def v26_0 : Pk G (Int × Int × List Int × Int × Int × Int) := (Pk.fst (pk (Sh.fst (Sh.cons (Sh.agg (Sh.cons (Sh.int .i64) (Sh.cons (Sh.int .i64) (Sh.cons (Sh.ros 22) (Sh.cons (Sh.int .i64) (Sh.cons (Sh.int .i64) (Sh.fst (Sh.cons (Sh.int .i64) Sh.nil)))))))) Sh.nil)) Sh.hnil))
def w26_0 : Pk G ((Int × Bool) × List Int) := (pk (Sh.snd (Sh.cons (Sh.osl 0) (Sh.cons (Sh.int .i64) (Sh.fst (Sh.cons Sh.bool Sh.nil))))) (Sh.fst (Sh.hrow 0 3 Sh.hnil)))
def c26_0_7 : Pk G ((Int × Bool × Int) × List Int × Int × Int × List Int × Int × Int × Int) := (pk (Sh.snd (Sh.cons (Sh.ptr 0 0) (Sh.snd (Sh.cons (Sh.osl 1) (Sh.cons (Sh.int .i64) (Sh.cons Sh.bool (Sh.fst (Sh.cons (Sh.int .i64) Sh.nil)))))))) (Sh.hrow 1 3 (Sh.fst (Sh.hfix 0 53 (Sh.cons (Sh.int .i64) (Sh.cons (Sh.int .i64) (Sh.cons (Sh.ros 22) (Sh.cons (Sh.int .i64) (Sh.cons (Sh.int .i64) (Sh.fst (Sh.cons (Sh.int .i64) Sh.nil))))))) Sh.hnil))))
def c26_0_11 : Pk G ((Int × Bool × Int × Int) × List Int × List Int × Int × Int × List Int × Int × Int × Int) := (pk (Sh.snd (Sh.cons (Sh.ptr 0 0) (Sh.snd (Sh.cons (Sh.osl 1) (Sh.cons (Sh.int .i64) (Sh.cons Sh.bool (Sh.cons (Sh.int .i64) (Sh.snd (Sh.cons (Sh.osl 2) (Sh.fst (Sh.cons (Sh.int .i64) Sh.nil))))))))))) (Sh.hrow 2 3 (Sh.hrow 1 3 (Sh.fst (Sh.hfix 0 53 (Sh.cons (Sh.int .i64) (Sh.cons (Sh.int .i64) (Sh.cons (Sh.ros 22) (Sh.cons (Sh.int .i64) (Sh.cons (Sh.int .i64) (Sh.fst (Sh.cons (Sh.int .i64) Sh.nil))))))) Sh.hnil)))))
def B26_0_7 (K : (((Int × Bool × Int) × List Int × Int × Int × List Int × Int × Int × Int) → Option ((Int × Bool) × List Int)) × (((Int × Bool × Int × Int) × List Int × List Int × Int × Int × List Int × Int × Int × Int) → Option ((Int × Bool) × List Int))) (v : (Int × Bool × Int) × List Int × Int × Int × List Int × Int × Int × Int) : Option ((Int × Bool) × List Int) :=
  let x611 : Int := (IntKind.wrap .i64 (v.2.2.1 - (1 : Int)))
  let x612 : Int := (IntKind.wrap .u64 x611)
  (chk (decide (0 ≤ x612))).bind fun _ =>
  let x613 : Int := (IntKind.wrap .i64 ((1 : Int) * 2 ^ min (x612).toNat 64))
  match (decide (v.1.2.2 < x613)) with
  | true =>
    K.2 ((v.1.1, (v.1.2.1, (v.1.2.2, (1 : Int)))), (([] : List Int), (v.2.1, (v.2.2.1, (v.2.2.2.1, (v.2.2.2.2.1, (v.2.2.2.2.2.1, (v.2.2.2.2.2.2.1, v.2.2.2.2.2.2.2))))))))
  | false =>
    some ((v.1.1, v.1.2.1), v.2.1)

def B26_0_11 (K : (((Int × Bool × Int) × List Int × Int × Int × List Int × Int × Int × Int) → Option ((Int × Bool) × List Int)) × (((Int × Bool × Int × Int) × List Int × List Int × Int × Int × List Int × Int × Int × Int) → Option ((Int × Bool) × List Int))) (v : (Int × Bool × Int × Int) × List Int × List Int × Int × Int × List Int × Int × Int × Int) : Option ((Int × Bool) × List Int) :=
  match (decide (v.1.2.2.2 < v.2.2.2.1)) with
  | true =>
    let x614 : Int := (IntKind.wrap .i64 (v.1.2.2.2 - (1 : Int)))
    let x615 : Int := (IntKind.wrap .u64 x614)
    (chk (decide (0 ≤ x615))).bind fun _ =>
    let x616 : Int := (Int.fdiv v.1.2.2.1 (2 ^ min (x615).toNat 64))
    let x617 : Int := (Int.tmod x616 (2 : Int))
    match (x617 == (1 : Int)) with
    | true =>
      (chk (decide (((v.2.1).length + (([v.1.2.2.2] : List Int)).length) * 8 ≤ 140737488355328))).bind fun _ =>
      let x618 : List Int := (v.2.1 ++ ([v.1.2.2.2] : List Int))
      let x619 : Int := (IntKind.wrap .i64 (v.1.2.2.2 + (1 : Int)))
      K.2 ((v.1.1, (v.1.2.1, (v.1.2.2.1, x619))), (x618, (v.2.2.1, (v.2.2.2.1, (v.2.2.2.2.1, (v.2.2.2.2.2.1, (v.2.2.2.2.2.2.1, (v.2.2.2.2.2.2.2.1, v.2.2.2.2.2.2.2.2))))))))
    | false =>
      let x620 : Int := (IntKind.wrap .i64 (v.1.2.2.2 + (1 : Int)))
      K.2 ((v.1.1, (v.1.2.1, (v.1.2.2.1, x620))), (v.2.1, (v.2.2.1, (v.2.2.2.1, (v.2.2.2.2.1, (v.2.2.2.2.2.1, (v.2.2.2.2.2.2.1, (v.2.2.2.2.2.2.2.1, v.2.2.2.2.2.2.2.2))))))))
  | false =>
    (F18_0 ((v.2.2.2.1, (v.2.2.2.2.1, (v.2.2.2.2.2.1, (v.2.2.2.2.2.2.1, (v.2.2.2.2.2.2.2.1, v.2.2.2.2.2.2.2.2))))), v.2.1)).bind fun r621 =>
    match r621.2 with
    | true =>
      match (!v.1.2.1) with
      | true =>
        let x622 : Int := (IntKind.wrap .i64 (v.1.2.2.1 + (1 : Int)))
        K.1 ((r621.1, (true, x622)), (v.2.1, (v.2.2.2.1, (v.2.2.2.2.1, (v.2.2.2.2.2.1, (v.2.2.2.2.2.2.1, (v.2.2.2.2.2.2.2.1, v.2.2.2.2.2.2.2.2)))))))
      | false =>
        (F40_0 (v.2.1, (r621.1, (v.2.2.1, v.1.1)))).bind fun r623 =>
        match r623 with
        | true =>
          let x624 : Int := (IntKind.wrap .i64 (v.1.2.2.1 + (1 : Int)))
          K.1 ((r621.1, (true, x624)), (v.2.1, (v.2.2.2.1, (v.2.2.2.2.1, (v.2.2.2.2.2.1, (v.2.2.2.2.2.2.1, (v.2.2.2.2.2.2.2.1, v.2.2.2.2.2.2.2.2)))))))
        | false =>
          let x625 : Int := (IntKind.wrap .i64 (v.1.2.2.1 + (1 : Int)))
          K.1 ((v.1.1, (v.1.2.1, x625)), (v.2.2.1, (v.2.2.2.1, (v.2.2.2.2.1, (v.2.2.2.2.2.1, (v.2.2.2.2.2.2.1, (v.2.2.2.2.2.2.2.1, v.2.2.2.2.2.2.2.2)))))))
    | false =>
      let x626 : Int := (IntKind.wrap .i64 (v.1.2.2.1 + (1 : Int)))
      K.1 ((v.1.1, (v.1.2.1, x626)), (v.2.2.1, (v.2.2.2.1, (v.2.2.2.2.1, (v.2.2.2.2.2.1, (v.2.2.2.2.2.2.1, (v.2.2.2.2.2.2.2.1, v.2.2.2.2.2.2.2.2)))))))

def E26_0 (K : (((Int × Bool × Int) × List Int × Int × Int × List Int × Int × Int × Int) → Option ((Int × Bool) × List Int)) × (((Int × Bool × Int × Int) × List Int × List Int × Int × Int × List Int × Int × Int × Int) → Option ((Int × Bool) × List Int))) (v : Int × Int × List Int × Int × Int × Int) : Option ((Int × Bool) × List Int) :=
  (F21_0 (v.1, (v.2.1, (v.2.2.1, (v.2.2.2.1, (v.2.2.2.2.1, v.2.2.2.2.2)))))).bind fun r610 =>
  match (r610 != (0 : Int)) with
  | true =>
    some (((0 : Int), false), ([] : List Int))
  | false =>
    match (decide (v.1 > (12 : Int))) with
    | true =>
      some (((0 : Int), false), ([] : List Int))
    | false =>
      K.1 (((0 : Int), (false, (0 : Int))), (([] : List Int), (v.1, (v.2.1, (v.2.2.1, (v.2.2.2.1, (v.2.2.2.2.1, v.2.2.2.2.2)))))))

def K26_0 : Nat → (((Int × Bool × Int) × List Int × Int × Int × List Int × Int × Int × Int) → Option ((Int × Bool) × List Int)) × (((Int × Bool × Int × Int) × List Int × List Int × Int × Int × List Int × Int × Int × Int) → Option ((Int × Bool) × List Int))
  | 0 => (fun _ => none, fun _ => none)
  | n + 1 => (B26_0_7 (K26_0 n), B26_0_11 (K26_0 n))
def fuel26_0 (v : Int × Int × List Int × Int × Int × Int) : Nat := 40000
def F26_0 (v : Int × Int × List Int × Int × Int × Int) : Option ((Int × Bool) × List Int) := E26_0 (K26_0 (fuel26_0 v)) v
noncomputable def k26_0 : List (Known Try.prog E) := [Known.of envOk [9] [(.agg [.keep, .keep, (.ros 22), .keep, .keep, .keep])] v21_0 F21_0 w21_0 ok21_0, Known.of envOk [9, 7] [(.agg [.keep, .keep, (.ros 22), .keep, .keep, .keep]), (.ros 3)] v18_0 F18_0 w18_0 ok18_0, Known.of envOk [7, 1, 7, 1] [(.ros 3), .keep, (.ros 3), .keep] v40_0 F40_0 w40_0 ok40_0]
def s26_0_11 : List (Nat × Pat) := [(1, (.ptr 0 0 53 [.keep, .keep, (.ros 22), .keep, .keep, .keep])), (5, (.own 1 3)), (6, .keep), (7, .keep), (8, .keep), (9, (.own 2 3)), (10, .keep)]
def s26_0_7 : List (Nat × Pat) := [(1, (.ptr 0 0 53 [.keep, .keep, (.ros 22), .keep, .keep, .keep])), (5, (.own 1 3)), (6, .keep), (7, .keep), (8, .keep)]
noncomputable def L26_0 (n id : Nat) (st : St G) : Option ((Int × Bool) × List Int) := match Nat.beq id 7 with | true => cutK Try.prog s26_0_7 [] c26_0_7.dec (K26_0 n).1 st | false => match Nat.beq id 11 with | true => cutK Try.prog s26_0_11 [] c26_0_11.dec (K26_0 n).2 st | false => none
set_option maxRecDepth 100000 in
theorem e26_0 (n : Nat) (v : Int × Int × List Int × Int × Int × Int) : ev Try.prog E (oracle k26_0) Try.f26.ntmps (fun x => mem x [7, 11]) (L26_0 n) (finK Try.prog E Try.f26.results.toList [(.own 0 3), .keep, .keep] [] w26_0.dec) 4000 [.code (Try.f26.body.getD .skip)] (argSt (v26_0.enc v)) = E26_0 (K26_0 n) v := by kernel_rfl
set_option maxRecDepth 100000 in
theorem b26_0_7 (n : Nat) (v : (Int × Bool × Int) × List Int × Int × Int × List Int × Int × Int × Int) : evCut Try.prog E (oracle k26_0) Try.f26.ntmps (fun x => mem x [7, 11]) (L26_0 n) (finK Try.prog E Try.f26.results.toList [(.own 0 3), .keep, .keep] [] w26_0.dec) 4000 (todoAt (Try.f26.body.getD .skip) 7) (cutSt s26_0_7 (c26_0_7.enc v)) = B26_0_7 (K26_0 n) v := by kernel_rfl
set_option maxRecDepth 100000 in
theorem b26_0_11 (n : Nat) (v : (Int × Bool × Int × Int) × List Int × List Int × Int × Int × List Int × Int × Int × Int) : evCut Try.prog E (oracle k26_0) Try.f26.ntmps (fun x => mem x [7, 11]) (L26_0 n) (finK Try.prog E Try.f26.results.toList [(.own 0 3), .keep, .keep] [] w26_0.dec) 4000 (todoAt (Try.f26.body.getD .skip) 11) (cutSt s26_0_11 (c26_0_11.enc v)) = B26_0_11 (K26_0 n) v := by kernel_rfl
theorem ok26_0 : FnOk Try.prog E 26 v26_0.enc F26_0 w26_0.enc :=
  fn_known (fn := Try.f26) (c := (Try.f26.body.getD .skip)) Try.func26 (by kernel_rfl) rfl envOk (oracle_ok k26_0) mixed v26_0 F26_0 w26_0 [(.own 0 3), .keep, .keep] [] [7, 11] 4000 L26_0 (by kernel_rfl)
    (List.forall_mem_cons.2 ⟨⟨_, s26_0_7, c26_0_7.dec, c26_0_7.enc, fun n => (K26_0 n).1, c26_0_7.ok, fun _ _ => rfl, fun _ => rfl, fun n v _ h => (b26_0_7 n v).trans h⟩, List.forall_mem_cons.2 ⟨⟨_, s26_0_11, c26_0_11.dec, c26_0_11.enc, fun n => (K26_0 n).2, c26_0_11.ok, fun _ _ => rfl, fun _ => rfl, fun n v _ h => (b26_0_11 n v).trans h⟩, fun _ h => (nomatch h)⟩⟩) (fun v _ h => ⟨fuel26_0 v, (e26_0 _ v).trans h⟩) (fun _ => by kernel_rfl) (fun _ => by kernel_rfl) (fun _ _ => by kernel_rfl)
/- chicane/chicanelaw47.PlanBest -/
def v6_0 : Pk G (Int × Int × List Int × Int × Int × Int) := (Pk.fst (pk (Sh.fst (Sh.cons (Sh.agg (Sh.cons (Sh.int .i64) (Sh.cons (Sh.int .i64) (Sh.cons (Sh.ros 22) (Sh.cons (Sh.int .i64) (Sh.cons (Sh.int .i64) (Sh.fst (Sh.cons (Sh.int .i64) Sh.nil)))))))) Sh.nil)) Sh.hnil))
def w6_0 : Pk G Bool := (Pk.fst (pk (Sh.fst (Sh.cons Sh.bool Sh.nil)) Sh.hnil))
def F6_0 (v : Int × Int × List Int × Int × Int × Int) : Option Bool :=
  (F16_0 (v.1, (v.2.1, (v.2.2.1, (v.2.2.2.1, (v.2.2.2.2.1, v.2.2.2.2.2)))))).bind fun r636 =>
  match (!r636) with
  | true =>
    some (true)
  | false =>
    match (decide (v.1 > (12 : Int))) with
    | true =>
      some (true)
    | false =>
      (F25_0 (v.1, (v.2.1, (v.2.2.1, (v.2.2.2.1, (v.2.2.2.2.1, v.2.2.2.2.2)))))).bind fun r637 =>
      (F19_0 (v.1, (v.2.1, (v.2.2.1, (v.2.2.2.1, (v.2.2.2.2.1, v.2.2.2.2.2)))))).bind fun r638 =>
      (F26_0 (r638.1, (r638.2.1, (r638.2.2.1, (r638.2.2.2.1, (r638.2.2.2.2.1, r638.2.2.2.2.2)))))).bind fun r639 =>
      (F27_0 (r637.2, r639.2)).bind fun r640 =>
      match r640 with
      | true =>
        match (r637.1.1 == r639.1.1) with
        | true =>
          match (r637.1.2 == r639.1.2) with
          | true =>
            (F22_0 ()).bind fun r641 =>
            some (r641)
          | false =>
            some (false)
        | false =>
          some (false)
      | false =>
        some (false)

noncomputable def k6_0 : List (Known Try.prog E) := [Known.of envOk [9] [(.agg [.keep, .keep, (.ros 22), .keep, .keep, .keep])] v16_0 F16_0 w16_0 ok16_0, Known.of envOk [9] [(.agg [.keep, .keep, (.ros 22), .keep, .keep, .keep])] v25_0 F25_0 w25_0 ok25_0, Known.of envOk [9] [(.agg [.keep, .keep, (.ros 22), .keep, .keep, .keep])] v19_0 F19_0 w19_0 ok19_0, Known.of envOk [9] [(.agg [.keep, .keep, (.ros 22), .keep, .keep, .keep])] v26_0 F26_0 w26_0 ok26_0, Known.of envOk [7, 7] [(.ros 3), (.ros 3)] v27_0 F27_0 w27_0 ok27_0, Known.of envOk [] [] v22_0 F22_0 w22_0 ok22_0]
noncomputable def L6_0 (n id : Nat) (st : St G) : Option Bool := none
set_option maxRecDepth 100000 in
theorem e6_0 (n : Nat) (v : Int × Int × List Int × Int × Int × Int) : ev Try.prog E (oracle k6_0) Try.f6.ntmps (fun x => mem x []) (L6_0 n) (finK Try.prog E Try.f6.results.toList [.keep] [] w6_0.dec) 4000 [.code (Try.f6.body.getD .skip)] (argSt (v6_0.enc v)) = F6_0 v := by kernel_rfl
theorem ok6_0 : FnOk Try.prog E 6 v6_0.enc F6_0 w6_0.enc :=
  fn_known (fn := Try.f6) (c := (Try.f6.body.getD .skip)) Try.func6 (by kernel_rfl) rfl envOk (oracle_ok k6_0) mixed v6_0 F6_0 w6_0 [.keep] [] [] 4000 L6_0 (by kernel_rfl)
    (fun _ h => nomatch h) (fun v _ h => ⟨0, (e6_0 _ v).trans h⟩) (fun _ => by kernel_rfl) (fun _ => by kernel_rfl) (fun _ _ => by kernel_rfl)
/- chicane/chicanelaw47.PlanLeast -/
def v7_0 : Pk G ((Int × Int × List Int × Int × Int × Int) × List Int) := (Pk.fst (pk (Sh.cons (Sh.agg (Sh.cons (Sh.int .i64) (Sh.cons (Sh.int .i64) (Sh.cons (Sh.ros 22) (Sh.cons (Sh.int .i64) (Sh.cons (Sh.int .i64) (Sh.fst (Sh.cons (Sh.int .i64) Sh.nil)))))))) (Sh.fst (Sh.cons (Sh.ros 3) Sh.nil))) Sh.hnil))
def w7_0 : Pk G Bool := (Pk.fst (pk (Sh.fst (Sh.cons Sh.bool Sh.nil)) Sh.hnil))
def F7_0 (v : (Int × Int × List Int × Int × Int × Int) × List Int) : Option Bool :=
  (F16_0 (v.1.1, (v.1.2.1, (v.1.2.2.1, (v.1.2.2.2.1, (v.1.2.2.2.2.1, v.1.2.2.2.2.2)))))).bind fun r666 =>
  match (!r666) with
  | true =>
    some (true)
  | false =>
    match (decide (((v.2).length : Int) > (200 : Int))) with
    | true =>
      some (true)
    | false =>
      (F25_0 (v.1.1, (v.1.2.1, (v.1.2.2.1, (v.1.2.2.2.1, (v.1.2.2.2.2.1, v.1.2.2.2.2.2)))))).bind fun r667 =>
      (F20_0 (v.1.1, (v.1.2.1, (v.1.2.2.1, (v.1.2.2.2.1, (v.1.2.2.2.2.1, v.1.2.2.2.2.2)))))).bind fun r668 =>
      match (r668 != (0 : Int)) with
      | true =>
        match (!r667.1.2) with
        | true =>
          match (((r667.2).length : Int) == (0 : Int)) with
          | true =>
            (F22_0 ()).bind fun r669 =>
            some (r669)
          | false =>
            some (false)
        | false =>
          some (false)
      | false =>
        (F17_0 ((v.1.1, (v.1.2.1, (v.1.2.2.1, (v.1.2.2.2.1, (v.1.2.2.2.2.1, v.1.2.2.2.2.2))))), r667.2)).bind fun r670 =>
        (F17_0 ((v.1.1, (v.1.2.1, (v.1.2.2.1, (v.1.2.2.2.1, (v.1.2.2.2.2.1, v.1.2.2.2.2.2))))), v.2)).bind fun r671 =>
        match r667.1.2 with
        | true =>
          match r670.2 with
          | true =>
            match (r667.1.1 == r670.1) with
            | true =>
              match (!r671.2) with
              | true =>
                match (!r671.2) with
                | true =>
                  (F22_0 ()).bind fun r672 =>
                  some (r672)
                | false =>
                  match (decide (r671.1 > r667.1.1)) with
                  | true =>
                    (F22_0 ()).bind fun r673 =>
                    some (r673)
                  | false =>
                    match (decide (((v.2).length : Int) ≥ ((r667.2).length : Int))) with
                    | true =>
                      (F22_0 ()).bind fun r674 =>
                      some (r674)
                    | false =>
                      some (false)
              | false =>
                match (decide (r671.1 ≥ r667.1.1)) with
                | true =>
                  match (!r671.2) with
                  | true =>
                    (F22_0 ()).bind fun r675 =>
                    some (r675)
                  | false =>
                    match (decide (r671.1 > r667.1.1)) with
                    | true =>
                      (F22_0 ()).bind fun r676 =>
                      some (r676)
                    | false =>
                      match (decide (((v.2).length : Int) ≥ ((r667.2).length : Int))) with
                      | true =>
                        (F22_0 ()).bind fun r677 =>
                        some (r677)
                      | false =>
                        some (false)
                | false =>
                  some (false)
            | false =>
              some (false)
          | false =>
            some (false)
        | false =>
          some (false)

noncomputable def k7_0 : List (Known Try.prog E) := [Known.of envOk [9] [(.agg [.keep, .keep, (.ros 22), .keep, .keep, .keep])] v16_0 F16_0 w16_0 ok16_0, Known.of envOk [9] [(.agg [.keep, .keep, (.ros 22), .keep, .keep, .keep])] v25_0 F25_0 w25_0 ok25_0, Known.of envOk [9] [(.agg [.keep, .keep, (.ros 22), .keep, .keep, .keep])] v20_0 F20_0 w20_0 ok20_0, Known.of envOk [] [] v22_0 F22_0 w22_0 ok22_0, Known.of envOk [9, 7] [(.agg [.keep, .keep, (.ros 22), .keep, .keep, .keep]), (.ros 3)] v17_0 F17_0 w17_0 ok17_0]
noncomputable def L7_0 (n id : Nat) (st : St G) : Option Bool := none
set_option maxRecDepth 100000 in
theorem e7_0 (n : Nat) (v : (Int × Int × List Int × Int × Int × Int) × List Int) : ev Try.prog E (oracle k7_0) Try.f7.ntmps (fun x => mem x []) (L7_0 n) (finK Try.prog E Try.f7.results.toList [.keep] [] w7_0.dec) 4000 [.code (Try.f7.body.getD .skip)] (argSt (v7_0.enc v)) = F7_0 v := by kernel_rfl
theorem ok7_0 : FnOk Try.prog E 7 v7_0.enc F7_0 w7_0.enc :=
  fn_known (fn := Try.f7) (c := (Try.f7.body.getD .skip)) Try.func7 (by kernel_rfl) rfl envOk (oracle_ok k7_0) mixed v7_0 F7_0 w7_0 [.keep] [] [] 4000 L7_0 (by kernel_rfl)
    (fun _ h => nomatch h) (fun v _ h => ⟨0, (e7_0 _ v).trans h⟩) (fun _ => by kernel_rfl) (fun _ => by kernel_rfl) (fun _ _ => by kernel_rfl)
/- chicane/chicanelaw47.PlanMore -/
def v8_0 : Pk G ((Int × Int × List Int × Int × Int × Int) × Int × Int) := (Pk.fst (pk (Sh.cons (Sh.agg (Sh.cons (Sh.int .i64) (Sh.cons (Sh.int .i64) (Sh.cons (Sh.ros 22) (Sh.cons (Sh.int .i64) (Sh.cons (Sh.int .i64) (Sh.fst (Sh.cons (Sh.int .i64) Sh.nil)))))))) (Sh.cons (Sh.int .i64) (Sh.fst (Sh.cons (Sh.int .i64) Sh.nil)))) Sh.hnil))
def w8_0 : Pk G Bool := (Pk.fst (pk (Sh.fst (Sh.cons Sh.bool Sh.nil)) Sh.hnil))
def F8_0 (v : (Int × Int × List Int × Int × Int × Int) × Int × Int) : Option Bool :=
  (F16_0 (v.1.1, (v.1.2.1, (v.1.2.2.1, (v.1.2.2.2.1, (v.1.2.2.2.2.1, v.1.2.2.2.2.2)))))).bind fun r708 =>
  match (!r708) with
  | true =>
    (F22_0 ()).bind fun r709 =>
    some (r709)
  | false =>
    (F20_0 (v.1.1, (v.1.2.1, (v.1.2.2.1, (v.1.2.2.2.1, (v.1.2.2.2.2.1, v.1.2.2.2.2.2)))))).bind fun r710 =>
    match (r710 != (0 : Int)) with
    | true =>
      (F22_0 ()).bind fun r711 =>
      some (r711)
    | false =>
      match (decide (v.2.1 < (0 : Int))) with
      | true =>
        (F22_0 ()).bind fun r712 =>
        some (r712)
      | false =>
        let x713 : Int := (IntKind.wrap .i64 ((100 : Int) - v.1.2.2.2.2.2))
        match (decide (v.2.1 > x713)) with
        | true =>
          (F22_0 ()).bind fun r714 =>
          some (r714)
        | false =>
          match (decide (v.2.2 < (0 : Int))) with
          | true =>
            (F22_0 ()).bind fun r715 =>
            some (r715)
          | false =>
            match (decide (v.2.2 > v.1.2.2.2.2.1)) with
            | true =>
              (F22_0 ()).bind fun r716 =>
              some (r716)
            | false =>
              (F25_0 (v.1.1, (v.1.2.1, (v.1.2.2.1, (v.1.2.2.2.1, (v.1.2.2.2.2.1, v.1.2.2.2.2.2)))))).bind fun r717 =>
              let x718 : Int := (IntKind.wrap .i64 (v.1.2.2.2.2.2 + v.2.1))
              let x719 : Int := (IntKind.wrap .i64 (v.1.2.2.2.2.1 - v.2.2))
              (F25_0 (v.1.1, (v.1.2.1, (v.1.2.2.1, (v.1.2.2.2.1, (v.1.2.2.2.2.1, x718)))))).bind fun r720 =>
              (F25_0 (v.1.1, (v.1.2.1, (v.1.2.2.1, (v.1.2.2.2.1, (x719, v.1.2.2.2.2.2)))))).bind fun r721 =>
              match r720.1.2 with
              | true =>
                match r721.1.2 with
                | true =>
                  match (decide (r720.1.1 ≤ r717.1.1)) with
                  | true =>
                    match (decide (r721.1.1 ≤ r717.1.1)) with
                    | true =>
                      (F22_0 ()).bind fun r722 =>
                      some (r722)
                    | false =>
                      some (false)
                  | false =>
                    some (false)
                | false =>
                  some (false)
              | false =>
                some (false)

noncomputable def k8_0 : List (Known Try.prog E) := [Known.of envOk [9] [(.agg [.keep, .keep, (.ros 22), .keep, .keep, .keep])] v16_0 F16_0 w16_0 ok16_0, Known.of envOk [] [] v22_0 F22_0 w22_0 ok22_0, Known.of envOk [9] [(.agg [.keep, .keep, (.ros 22), .keep, .keep, .keep])] v20_0 F20_0 w20_0 ok20_0, Known.of envOk [9] [(.agg [.keep, .keep, (.ros 22), .keep, .keep, .keep])] v25_0 F25_0 w25_0 ok25_0]
noncomputable def L8_0 (n id : Nat) (st : St G) : Option Bool := none
set_option maxRecDepth 100000 in
theorem e8_0 (n : Nat) (v : (Int × Int × List Int × Int × Int × Int) × Int × Int) : ev Try.prog E (oracle k8_0) Try.f8.ntmps (fun x => mem x []) (L8_0 n) (finK Try.prog E Try.f8.results.toList [.keep] [] w8_0.dec) 4000 [.code (Try.f8.body.getD .skip)] (argSt (v8_0.enc v)) = F8_0 v := by kernel_rfl
theorem ok8_0 : FnOk Try.prog E 8 v8_0.enc F8_0 w8_0.enc :=
  fn_known (fn := Try.f8) (c := (Try.f8.body.getD .skip)) Try.func8 (by kernel_rfl) rfl envOk (oracle_ok k8_0) mixed v8_0 F8_0 w8_0 [.keep] [] [] 4000 L8_0 (by kernel_rfl)
    (fun _ h => nomatch h) (fun v _ h => ⟨0, (e8_0 _ v).trans h⟩) (fun _ => by kernel_rfl) (fun _ => by kernel_rfl) (fun _ _ => by kernel_rfl)
def Dom5_0 (v : (Int × Int × List Int × Int × Int × Int) × List Int) : Prop := ((Lit.int .i64 v.1.1).wf = true ∧ (Lit.int .i64 v.1.2.1).wf = true ∧ (((v.1.2.2.1).length ≤ maxLen ∧ ∀ x ∈ v.1.2.2.1, (Lit.int .i64 x).wf = true)) ∧ (Lit.int .i64 v.1.2.2.2.1).wf = true ∧ (Lit.int .i64 v.1.2.2.2.2.1).wf = true ∧ (Lit.int .i64 v.1.2.2.2.2.2).wf = true) ∧ (((v.2).length ≤ maxLen ∧ ∀ x ∈ v.2, (Lit.int .i64 x).wf = true))
def Dom6_0 (v : Int × Int × List Int × Int × Int × Int) : Prop := ((Lit.int .i64 v.1).wf = true ∧ (Lit.int .i64 v.2.1).wf = true ∧ (((v.2.2.1).length ≤ maxLen ∧ ∀ x ∈ v.2.2.1, (Lit.int .i64 x).wf = true)) ∧ (Lit.int .i64 v.2.2.2.1).wf = true ∧ (Lit.int .i64 v.2.2.2.2.1).wf = true ∧ (Lit.int .i64 v.2.2.2.2.2).wf = true)
def Dom7_0 (v : (Int × Int × List Int × Int × Int × Int) × List Int) : Prop := ((Lit.int .i64 v.1.1).wf = true ∧ (Lit.int .i64 v.1.2.1).wf = true ∧ (((v.1.2.2.1).length ≤ maxLen ∧ ∀ x ∈ v.1.2.2.1, (Lit.int .i64 x).wf = true)) ∧ (Lit.int .i64 v.1.2.2.2.1).wf = true ∧ (Lit.int .i64 v.1.2.2.2.2.1).wf = true ∧ (Lit.int .i64 v.1.2.2.2.2.2).wf = true) ∧ (((v.2).length ≤ maxLen ∧ ∀ x ∈ v.2, (Lit.int .i64 x).wf = true))
def Dom8_0 (v : (Int × Int × List Int × Int × Int × Int) × Int × Int) : Prop := ((Lit.int .i64 v.1.1).wf = true ∧ (Lit.int .i64 v.1.2.1).wf = true ∧ (((v.1.2.2.1).length ≤ maxLen ∧ ∀ x ∈ v.1.2.2.1, (Lit.int .i64 x).wf = true)) ∧ (Lit.int .i64 v.1.2.2.2.1).wf = true ∧ (Lit.int .i64 v.1.2.2.2.2.1).wf = true ∧ (Lit.int .i64 v.1.2.2.2.2.2).wf = true) ∧ (Lit.int .i64 v.2.1).wf = true ∧ (Lit.int .i64 v.2.2).wf = true
end Go.Proofs.Ythlnocpbdhcnlaa.Ev
