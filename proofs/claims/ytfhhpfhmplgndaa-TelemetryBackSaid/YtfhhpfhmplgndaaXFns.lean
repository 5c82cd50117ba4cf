import Derived.Test.YtfhhpfhmplgndaaXEnv
set_option linter.unusedVariables false
namespace Go.Proofs.Ytfhhpfhmplgndaa.Ev
open Go Go.RowKit
def sc0 : ByteArray := ⟨#[67, 72, 84, 76]⟩
/- chicane/wire.marked -/
abbrev A75_0 : Type := ByteArray
abbrev R75_0 : Type := Int × Int × Int × Int
def v75_0 : Pk G ByteArray := (Pk.fst (pk (Sh.fst (Sh.cons Sh.str Sh.nil)) Sh.hnil))
def w75_0 : Wk G (Int × Int × Int × Int) := (Wk.one [(.agg [.keep, .keep, .keep, .keep])] (Pk.fst (pk (Sh.fst (Sh.cons (Sh.agg (Sh.cons (Sh.int .u8) (Sh.cons (Sh.int .u8) (Sh.cons (Sh.int .u8) (Sh.fst (Sh.cons (Sh.int .u8) Sh.nil)))))) Sh.nil)) Sh.hnil)))
def F75_0 (v : ByteArray) : Option (Int × Int × Int × Int) :=
  some ((if 0 < (v).size then byteI v 0 else (0 : Int)), ((if 1 < (v).size then byteI v 1 else (0 : Int)), ((if 2 < (v).size then byteI v 2 else (0 : Int)), (if 3 < (v).size then byteI v 3 else (0 : Int)))))

noncomputable def k75_0 : List (Known Try.prog E) := []
noncomputable def L75_0 (n id : Nat) (st : St G) : Option (Int × Int × Int × Int) := none
set_option maxRecDepth 100000 in
theorem e75_0 (n : Nat) (v : ByteArray) : ev Try.prog E (oracle k75_0) Try.f75.ntmps (fun x => mem x []) (L75_0 n) (finA Try.prog E Try.f75.results.toList [] w75_0.alts) 4000 [.code (Try.f75.body.getD .skip)] (argSt (v75_0.enc v)) = F75_0 v := by kernel_rfl
theorem ok75_0 : FnOk Try.prog E 75 v75_0.enc F75_0 w75_0.enc :=
  fn_known (fn := Try.f75) (c := (Try.f75.body.getD .skip)) Try.func75 (by kernel_rfl) rfl envOk (oracle_ok k75_0) mixed v75_0 F75_0 w75_0 [] [] 4000 L75_0 (by kernel_rfl)
    (fun _ h => nomatch h) (fun v _ h => ⟨0, (e75_0 _ v).trans h⟩) (fun _ => by kernel_rfl) (fun _ => by kernel_rfl) (fun _ _ => by kernel_rfl)
/- (*chicane/wire.Out).Mark -/
abbrev A36_0 : Type := ByteArray × List Int
abbrev R36_0 : Type := List Int
def v36_0 : Pk G (ByteArray × List Int) := (pk (Sh.snd (Sh.cons (Sh.ptr 0 0) (Sh.fst (Sh.cons Sh.str Sh.nil)))) (Sh.snd (Sh.hfix 0 96 (Sh.snd (Sh.cons (Sh.osl 1) Sh.nil)) (Sh.fst (Sh.hrow 1 5 Sh.hnil)))))
def w36_0 : Wk G (List Int) := (Wk.one [] (Pk.snd (pk Sh.nil (Sh.snd (Sh.hfix 0 96 (Sh.snd (Sh.cons (Sh.osl 2) Sh.nil)) (Sh.fst (Sh.hrow 2 5 Sh.hnil)))))))
def F36_0 (v : ByteArray × List Int) : Option (List Int) :=
  (F75_0 v.1).bind fun r6 =>
  (chk (decide (((v.2).length + (([r6.1, r6.2.1, r6.2.2.1, r6.2.2.2] : List Int)).length) * 1 ≤ 140737488355328))).bind fun _ =>
  let x7 : List Int := (v.2 ++ ([r6.1, r6.2.1, r6.2.2.1, r6.2.2.2] : List Int))
  some (x7)

noncomputable def k36_0 : List (Known Try.prog E) := [Known.of envOk [3] [.keep] v75_0 F75_0 w75_0 ok75_0]
noncomputable def L36_0 (n id : Nat) (st : St G) : Option (List Int) := none
set_option maxRecDepth 100000 in
theorem e36_0 (n : Nat) (v : ByteArray × List Int) : ev Try.prog E (oracle k36_0) Try.f36.ntmps (fun x => mem x []) (L36_0 n) (finA Try.prog E Try.f36.results.toList [(.ptr 0 0 96 [(.own 2 5)])] w36_0.alts) 4000 [.code (Try.f36.body.getD .skip)] (argSt (v36_0.enc v)) = F36_0 v := by kernel_rfl
theorem ok36_0 : FnOk Try.prog E 36 v36_0.enc F36_0 w36_0.enc :=
  fn_known (fn := Try.f36) (c := (Try.f36.body.getD .skip)) Try.func36 (by kernel_rfl) rfl envOk (oracle_ok k36_0) mixed v36_0 F36_0 w36_0 [(.ptr 0 0 96 [(.own 2 5)])] [] 4000 L36_0 (by kernel_rfl)
    (fun _ h => nomatch h) (fun v _ h => ⟨0, (e36_0 _ v).trans h⟩) (fun _ => by kernel_rfl) (fun _ => by kernel_rfl) (fun _ _ => by kernel_rfl)
/- chicane/wire.low -/
abbrev A76_0 : Type := (Int × Int) × List Int
abbrev R76_0 : Type := List Int
def v76_0 : Pk G ((Int × Int) × List Int) := (pk (Sh.snd (Sh.cons (Sh.osl 0) (Sh.cons (Sh.int .u64) (Sh.fst (Sh.cons (Sh.int .i64) Sh.nil))))) (Sh.fst (Sh.hrow 0 5 Sh.hnil)))
def w76_0 : Wk G (List Int) := (Wk.one [(.own 1 5)] (Pk.snd (pk (Sh.snd (Sh.cons (Sh.osl 1) Sh.nil)) (Sh.fst (Sh.hrow 1 5 Sh.hnil)))))
def c76_0_2 : Pk G ((Int × Int × Int) × List Int) := (pk (Sh.snd (Sh.cons (Sh.osl 1) (Sh.cons (Sh.int .u64) (Sh.cons (Sh.int .i64) (Sh.fst (Sh.cons (Sh.int .i64) Sh.nil)))))) (Sh.fst (Sh.hrow 1 5 Sh.hnil)))
def B76_0_2 (K : (((Int × Int × Int) × List Int) → Option (List Int))) (v : (Int × Int × Int) × List Int) : Option (List Int) :=
  bif (decide (v.1.2.2 < v.1.2.1)) then
    let x22 : Int := (IntKind.wrap .u8 v.1.1)
    (chk (decide (((v.2).length + (([x22] : List Int)).length) * 1 ≤ 140737488355328))).bind fun _ =>
    let x23 : List Int := (v.2 ++ ([x22] : List Int))
    let x24 : Int := (Int.fdiv v.1.1 (2 ^ 8))
    let x25 : Int := (IntKind.wrap .i64 (v.1.2.2 + (1 : Int)))
    K ((x24, (v.1.2.1, x25)), x23)
  else
    some (v.2)

def E76_0 (K : (((Int × Int × Int) × List Int) → Option (List Int))) (v : (Int × Int) × List Int) : Option (List Int) :=
  K ((v.1.1, (v.1.2, (0 : Int))), v.2)

def K76_0 : Nat → (((Int × Int × Int) × List Int) → Option (List Int))
  | 0 => (fun _ => none)
  | n + 1 => (B76_0_2 (K76_0 n))
def fuel76_0 (v : (Int × Int) × List Int) : Nat := 1000
def F76_0 (v : (Int × Int) × List Int) : Option (List Int) := E76_0 (K76_0 (fuel76_0 v)) v
noncomputable def k76_0 : List (Known Try.prog E) := []
def s76_0_2 : List (Nat × Pat) := [(0, (.own 1 5)), (1, .keep), (7, .keep), (8, .keep)]
noncomputable def L76_0 (n id : Nat) (st : St G) : Option (List Int) := match Nat.beq id 2 with | true => cutK Try.prog s76_0_2 [] c76_0_2.dec (K76_0 n) st | false => none
set_option maxRecDepth 100000 in
theorem e76_0 (n : Nat) (v : (Int × Int) × List Int) : ev Try.prog E (oracle k76_0) Try.f76.ntmps (fun x => mem x [2]) (L76_0 n) (finA Try.prog E Try.f76.results.toList [] w76_0.alts) 4000 [.code (Try.f76.body.getD .skip)] (argSt (v76_0.enc v)) = E76_0 (K76_0 n) v := by kernel_rfl
set_option maxRecDepth 100000 in
theorem b76_0_2 (n : Nat) (v : (Int × Int × Int) × List Int) : evCut Try.prog E (oracle k76_0) Try.f76.ntmps (fun x => mem x [2]) (L76_0 n) (finA Try.prog E Try.f76.results.toList [] w76_0.alts) 4000 (todoAt (Try.f76.body.getD .skip) 2) (cutSt s76_0_2 (c76_0_2.enc v)) = B76_0_2 (K76_0 n) v := by kernel_rfl
theorem ok76_0 : FnOk Try.prog E 76 v76_0.enc F76_0 w76_0.enc :=
  fn_known (fn := Try.f76) (c := (Try.f76.body.getD .skip)) Try.func76 (by kernel_rfl) rfl envOk (oracle_ok k76_0) mixed v76_0 F76_0 w76_0 [] [2] 4000 L76_0 (by kernel_rfl)
    (List.forall_mem_cons.2 ⟨⟨_, s76_0_2, c76_0_2.dec, c76_0_2.enc, fun n => (K76_0 n), c76_0_2.ok, fun _ _ => rfl, fun _ => rfl, fun n v _ h => (b76_0_2 n v).trans h⟩, fun _ h => (nomatch h)⟩) (fun v _ h => ⟨fuel76_0 v, (e76_0 _ v).trans h⟩) (fun _ => by kernel_rfl) (fun _ => by kernel_rfl) (fun _ _ => by kernel_rfl)
/- (*chicane/wire.Out).Num -/
abbrev A37_0 : Type := Int × List Int
abbrev R37_0 : Type := List Int
def v37_0 : Pk G (Int × List Int) := (pk (Sh.snd (Sh.cons (Sh.ptr 0 0) (Sh.fst (Sh.cons (Sh.int .i64) Sh.nil)))) (Sh.snd (Sh.hfix 0 96 (Sh.snd (Sh.cons (Sh.osl 1) Sh.nil)) (Sh.fst (Sh.hrow 1 5 Sh.hnil)))))
def w37_0 : Wk G (List Int) := (Wk.one [] (Pk.snd (pk Sh.nil (Sh.snd (Sh.hfix 0 96 (Sh.snd (Sh.cons (Sh.osl 2) Sh.nil)) (Sh.fst (Sh.hrow 2 5 Sh.hnil)))))))
def F37_0 (v : Int × List Int) : Option (List Int) :=
  let x29 : Int := (IntKind.wrap .u64 v.1)
  (F76_0 ((x29, (8 : Int)), v.2)).bind fun r30 =>
  some (r30)

noncomputable def k37_0 : List (Known Try.prog E) := [Known.of envOk [7, 1, 1] [(.own 0 5), .keep, .keep] v76_0 F76_0 w76_0 ok76_0]
noncomputable def L37_0 (n id : Nat) (st : St G) : Option (List Int) := none
set_option maxRecDepth 100000 in
theorem e37_0 (n : Nat) (v : Int × List Int) : ev Try.prog E (oracle k37_0) Try.f37.ntmps (fun x => mem x []) (L37_0 n) (finA Try.prog E Try.f37.results.toList [(.ptr 0 0 96 [(.own 2 5)])] w37_0.alts) 4000 [.code (Try.f37.body.getD .skip)] (argSt (v37_0.enc v)) = F37_0 v := by kernel_rfl
theorem ok37_0 : FnOk Try.prog E 37 v37_0.enc F37_0 w37_0.enc :=
  fn_known (fn := Try.f37) (c := (Try.f37.body.getD .skip)) Try.func37 (by kernel_rfl) rfl envOk (oracle_ok k37_0) mixed v37_0 F37_0 w37_0 [(.ptr 0 0 96 [(.own 2 5)])] [] 4000 L37_0 (by kernel_rfl)
    (fun _ h => nomatch h) (fun v _ h => ⟨0, (e37_0 _ v).trans h⟩) (fun _ => by kernel_rfl) (fun _ => by kernel_rfl) (fun _ _ => by kernel_rfl)
/- (*chicane/wire.Out).Raw -/
abbrev A39_0 : Type := List Int × List Int
abbrev R39_0 : Type := List Int
def v39_0 : Pk G (List Int × List Int) := (pk (Sh.snd (Sh.cons (Sh.ptr 0 0) (Sh.fst (Sh.cons (Sh.ros 5) Sh.nil)))) (Sh.snd (Sh.hfix 0 96 (Sh.snd (Sh.cons (Sh.osl 1) Sh.nil)) (Sh.fst (Sh.hrow 1 5 Sh.hnil)))))
def w39_0 : Wk G (List Int) := (Wk.one [] (Pk.snd (pk Sh.nil (Sh.snd (Sh.hfix 0 96 (Sh.snd (Sh.cons (Sh.osl 2) Sh.nil)) (Sh.fst (Sh.hrow 2 5 Sh.hnil)))))))
def F39_0 (v : List Int × List Int) : Option (List Int) :=
  (chk (decide (((v.2).length + (v.1).length) * 1 ≤ 140737488355328))).bind fun _ =>
  let x35 : List Int := (v.2 ++ v.1)
  some (x35)

noncomputable def k39_0 : List (Known Try.prog E) := []
noncomputable def L39_0 (n id : Nat) (st : St G) : Option (List Int) := none
set_option maxRecDepth 100000 in
theorem e39_0 (n : Nat) (v : List Int × List Int) : ev Try.prog E (oracle k39_0) Try.f39.ntmps (fun x => mem x []) (L39_0 n) (finA Try.prog E Try.f39.results.toList [(.ptr 0 0 96 [(.own 2 5)])] w39_0.alts) 4000 [.code (Try.f39.body.getD .skip)] (argSt (v39_0.enc v)) = F39_0 v := by kernel_rfl
theorem ok39_0 : FnOk Try.prog E 39 v39_0.enc F39_0 w39_0.enc :=
  fn_known (fn := Try.f39) (c := (Try.f39.body.getD .skip)) Try.func39 (by kernel_rfl) rfl envOk (oracle_ok k39_0) mixed v39_0 F39_0 w39_0 [(.ptr 0 0 96 [(.own 2 5)])] [] 4000 L39_0 (by kernel_rfl)
    (fun _ h => nomatch h) (fun v _ h => ⟨0, (e39_0 _ v).trans h⟩) (fun _ => by kernel_rfl) (fun _ => by kernel_rfl) (fun _ _ => by kernel_rfl)
/- slices.Clone[[]byte,byte] -/
abbrev A77_n : Type := Unit
abbrev R77_n : Type := List Int
def v77_n : Pk G Unit := (Pk.snd (pk (Sh.snd (Sh.cons Sh.nilsl Sh.nil)) Sh.hnil))
def w77_n : Wk G (List Int) := (Wk.one [(.own 0 5)] (Pk.snd (pk (Sh.snd (Sh.cons (Sh.osl 0) Sh.nil)) (Sh.fst (Sh.hrow 0 5 Sh.hnil)))))
def F77_n (v : Unit) : Option (List Int) :=
  some ([] : List Int)

noncomputable def k77_n : List (Known Try.prog E) := []
noncomputable def L77_n (n id : Nat) (st : St G) : Option (List Int) := none
set_option maxRecDepth 100000 in
theorem e77_n (n : Nat) (v : Unit) : ev Try.prog E (oracle k77_n) Try.f77.ntmps (fun x => mem x []) (L77_n n) (finA Try.prog E Try.f77.results.toList [] w77_n.alts) 4000 [.code (Try.f77.body.getD .skip)] (argSt (v77_n.enc v)) = F77_n v := by kernel_rfl
theorem ok77_n : FnOk Try.prog E 77 v77_n.enc F77_n w77_n.enc :=
  fn_known (fn := Try.f77) (c := (Try.f77.body.getD .skip)) Try.func77 (by kernel_rfl) rfl envOk (oracle_ok k77_n) mixed v77_n F77_n w77_n [] [] 4000 L77_n (by kernel_rfl)
    (fun _ h => nomatch h) (fun v _ h => ⟨0, (e77_n _ v).trans h⟩) (fun _ => by kernel_rfl) (fun _ => by kernel_rfl) (fun _ _ => by kernel_rfl)
/- slices.Clone[[]byte,byte] -/
abbrev A77_r : Type := List Int
abbrev R77_r : Type := List Int
def v77_r : Pk G (List Int) := (Pk.fst (pk (Sh.fst (Sh.cons (Sh.rosn 5) Sh.nil)) Sh.hnil))
def w77_r : Wk G (List Int) := (Wk.one [(.own 0 5)] (Pk.snd (pk (Sh.snd (Sh.cons (Sh.osl 0) Sh.nil)) (Sh.fst (Sh.hrow 0 5 Sh.hnil)))))
def F77_r (v : List Int) : Option (List Int) :=
  (chk (decide (((([] : List Int)).length + (v).length) * 1 ≤ 140737488355328))).bind fun _ =>
  let x39 : List Int := (([] : List Int) ++ v)
  some (x39)

noncomputable def k77_r : List (Known Try.prog E) := []
noncomputable def L77_r (n id : Nat) (st : St G) : Option (List Int) := none
set_option maxRecDepth 100000 in
theorem e77_r (n : Nat) (v : List Int) : ev Try.prog E (oracle k77_r) Try.f77.ntmps (fun x => mem x []) (L77_r n) (finA Try.prog E Try.f77.results.toList [] w77_r.alts) 4000 [.code (Try.f77.body.getD .skip)] (argSt (v77_r.enc v)) = F77_r v := by kernel_rfl
theorem ok77_r : FnOk Try.prog E 77 v77_r.enc F77_r w77_r.enc :=
  fn_known (fn := Try.f77) (c := (Try.f77.body.getD .skip)) Try.func77 (by kernel_rfl) rfl envOk (oracle_ok k77_r) mixed v77_r F77_r w77_r [] [] 4000 L77_r (by kernel_rfl)
    (fun _ h => nomatch h) (fun v _ h => ⟨0, (e77_r _ v).trans h⟩) (fun _ => by kernel_rfl) (fun _ => by kernel_rfl) (fun _ _ => by kernel_rfl)
/- slices.Clone[[]byte,byte] -/
abbrev A77_0 : Type := List Int
abbrev R77_0 : Type := List Int
def v77_0 : Pk G (List Int) := (Pk.fst (pk (Sh.fst (Sh.cons (Sh.ros 5) Sh.nil)) Sh.hnil))
def w77_0 : Wk G (List Int) := (Wk.one [(.own 0 5)] (Pk.snd (pk (Sh.snd (Sh.cons (Sh.osl 0) Sh.nil)) (Sh.fst (Sh.hrow 0 5 Sh.hnil)))))
def F77_0 (v : List Int) : Option (List Int) := F77_r v
theorem on77_0 : FnOk Try.prog E 77 (fun _ : Unit => ([AV.nilsl], [])) F77_n w77_0.enc := ok77_n
theorem or77_0 : FnOk Try.prog E 77 (fun xs : List (G 5) => ([AV.rosn 5 xs], [])) F77_r w77_0.enc := ok77_r
theorem ok77_0 : FnOk Try.prog E 77 v77_0.enc F77_0 w77_0.enc := FnOk.split (e := 5) on77_0 or77_0 (fun _ h => (by kernel_rfl : F77_n () = F77_r []).trans h) (fun _ _ h => h)
/- (*chicane/wire.Out).Bytes -/
abbrev A40_0 : Type := List Int
abbrev R40_0 : Type := List Int × List Int
def v40_0 : Pk G (List Int) := (Pk.snd (pk (Sh.snd (Sh.cons (Sh.ptr 0 0) Sh.nil)) (Sh.snd (Sh.hfix 0 96 (Sh.snd (Sh.cons (Sh.osl 1) Sh.nil)) (Sh.fst (Sh.hrow 1 5 Sh.hnil))))))
def w40_0 : Wk G (List Int × List Int) := (Wk.one [(.own 2 5)] (Pk.snd (pk (Sh.snd (Sh.cons (Sh.osl 2) Sh.nil)) (Sh.hrow 2 5 (Sh.snd (Sh.hfix 0 96 (Sh.snd (Sh.cons (Sh.osl 1) Sh.nil)) (Sh.fst (Sh.hrow 1 5 Sh.hnil))))))))
def F40_0 (v : List Int) : Option (List Int × List Int) :=
  (F77_0 v).bind fun r42 =>
  some (r42, v)

noncomputable def k40_0 : List (Known Try.prog E) := [Known.of envOk [7] [(.ros 5)] v77_0 F77_0 w77_0 ok77_0]
noncomputable def L40_0 (n id : Nat) (st : St G) : Option (List Int × List Int) := none
set_option maxRecDepth 100000 in
theorem e40_0 (n : Nat) (v : List Int) : ev Try.prog E (oracle k40_0) Try.f40.ntmps (fun x => mem x []) (L40_0 n) (finA Try.prog E Try.f40.results.toList [(.own 1 5), (.ptr 0 0 96 [(.own 1 5)])] w40_0.alts) 4000 [.code (Try.f40.body.getD .skip)] (argSt (v40_0.enc v)) = F40_0 v := by kernel_rfl
theorem ok40_0 : FnOk Try.prog E 40 v40_0.enc F40_0 w40_0.enc :=
  fn_known (fn := Try.f40) (c := (Try.f40.body.getD .skip)) Try.func40 (by kernel_rfl) rfl envOk (oracle_ok k40_0) mixed v40_0 F40_0 w40_0 [(.own 1 5), (.ptr 0 0 96 [(.own 1 5)])] [] 4000 L40_0 (by kernel_rfl)
    (fun _ h => nomatch h) (fun v _ h => ⟨0, (e40_0 _ v).trans h⟩) (fun _ => by kernel_rfl) (fun _ => by kernel_rfl) (fun _ _ => by kernel_rfl)
/- chicane/telemetry.short -/
abbrev A38_0 : Type := Int × List Int
abbrev R38_0 : Type := List Int
def v38_0 : Pk G (Int × List Int) := (pk (Sh.snd (Sh.cons (Sh.osl 0) (Sh.fst (Sh.cons (Sh.int .i64) Sh.nil)))) (Sh.fst (Sh.hrow 0 5 Sh.hnil)))
def w38_0 : Wk G (List Int) := (Wk.one [(.own 1 5)] (Pk.snd (pk (Sh.snd (Sh.cons (Sh.osl 1) Sh.nil)) (Sh.fst (Sh.hrow 1 5 Sh.hnil)))))
def c38_0_2 : Pk G (Int × List Int) := (pk (Sh.snd (Sh.cons (Sh.osl 1) (Sh.fst (Sh.cons (Sh.int .u64) Sh.nil)))) (Sh.fst (Sh.hrow 1 5 Sh.hnil)))
def B38_0_2 (K : ((Int × List Int) → Option (List Int))) (v : Int × List Int) : Option (List Int) :=
  bif (decide (v.1 ≥ (128 : Int))) then
    let x85 : Int := (IntKind.wrap .u8 v.1)
    let x86 : Int := (Go.bits .or .u8 x85 (128 : Int))
    (chk (decide (((v.2).length + (([x86] : List Int)).length) * 1 ≤ 140737488355328))).bind fun _ =>
    let x87 : List Int := (v.2 ++ ([x86] : List Int))
    let x88 : Int := (Int.fdiv v.1 (2 ^ 7))
    K (x88, x87)
  else
    let x89 : Int := (IntKind.wrap .u8 v.1)
    (chk (decide (((v.2).length + (([x89] : List Int)).length) * 1 ≤ 140737488355328))).bind fun _ =>
    let x90 : List Int := (v.2 ++ ([x89] : List Int))
    some (x90)

def E38_0 (K : ((Int × List Int) → Option (List Int))) (v : Int × List Int) : Option (List Int) :=
  let x80 : Int := (IntKind.wrap .i64 (v.1 * 2 ^ 1))
  let x81 : Int := (IntKind.wrap .u64 x80)
  let x82 : Int := (Int.fdiv v.1 (2 ^ 63))
  let x83 : Int := (IntKind.wrap .u64 x82)
  let x84 : Int := (Go.bits .xor .u64 x81 x83)
  K (x84, v.2)

def K38_0 : Nat → ((Int × List Int) → Option (List Int))
  | 0 => (fun _ => none)
  | n + 1 => (B38_0_2 (K38_0 n))
def fuel38_0 (v : Int × List Int) : Nat := 1000
def F38_0 (v : Int × List Int) : Option (List Int) := E38_0 (K38_0 (fuel38_0 v)) v
noncomputable def k38_0 : List (Known Try.prog E) := []
def s38_0_2 : List (Nat × Pat) := [(0, (.own 1 5)), (5, .keep)]
noncomputable def L38_0 (n id : Nat) (st : St G) : Option (List Int) := match Nat.beq id 2 with | true => cutK Try.prog s38_0_2 [] c38_0_2.dec (K38_0 n) st | false => none
set_option maxRecDepth 100000 in
theorem e38_0 (n : Nat) (v : Int × List Int) : ev Try.prog E (oracle k38_0) Try.f38.ntmps (fun x => mem x [2]) (L38_0 n) (finA Try.prog E Try.f38.results.toList [] w38_0.alts) 4000 [.code (Try.f38.body.getD .skip)] (argSt (v38_0.enc v)) = E38_0 (K38_0 n) v := by kernel_rfl
set_option maxRecDepth 100000 in
theorem b38_0_2 (n : Nat) (v : Int × List Int) : evCut Try.prog E (oracle k38_0) Try.f38.ntmps (fun x => mem x [2]) (L38_0 n) (finA Try.prog E Try.f38.results.toList [] w38_0.alts) 4000 (todoAt (Try.f38.body.getD .skip) 2) (cutSt s38_0_2 (c38_0_2.enc v)) = B38_0_2 (K38_0 n) v := by kernel_rfl
theorem ok38_0 : FnOk Try.prog E 38 v38_0.enc F38_0 w38_0.enc :=
  fn_known (fn := Try.f38) (c := (Try.f38.body.getD .skip)) Try.func38 (by kernel_rfl) rfl envOk (oracle_ok k38_0) mixed v38_0 F38_0 w38_0 [] [2] 4000 L38_0 (by kernel_rfl)
    (List.forall_mem_cons.2 ⟨⟨_, s38_0_2, c38_0_2.dec, c38_0_2.enc, fun n => (K38_0 n), c38_0_2.ok, fun _ _ => rfl, fun _ => rfl, fun n v _ h => (b38_0_2 n v).trans h⟩, fun _ h => (nomatch h)⟩) (fun v _ h => ⟨fuel38_0 v, (e38_0 _ v).trans h⟩) (fun _ => by kernel_rfl) (fun _ => by kernel_rfl) (fun _ _ => by kernel_rfl)
/- chicane/telemetry.Pack -/
abbrev A18_0 : Type := List (Int × Int × Int × Int × Int × Int × Int × Int)
abbrev R18_0 : Type := List Int
def v18_0 : Pk G (List (Int × Int × Int × Int × Int × Int × Int × Int)) := (Pk.fst (pk (Sh.fst (Sh.cons (Sh.ros 56) Sh.nil)) Sh.hnil))
def w18_0 : Wk G (List Int) := (Wk.one [(.own 0 5)] (Pk.snd (pk (Sh.snd (Sh.cons (Sh.osl 0) Sh.nil)) (Sh.fst (Sh.hrow 0 5 Sh.hnil)))))
def c18_0_6 : Pk G (((List (Int × Int × Int × Int × Int × Int × Int × Int)) × Int) × List Int × List Int) := (pk (Sh.cons (Sh.ros 56) (Sh.snd (Sh.cons (Sh.ptr 0 0) (Sh.snd (Sh.cons (Sh.osl 2) (Sh.fst (Sh.cons (Sh.int .i64) Sh.nil))))))) (Sh.hrow 2 5 (Sh.snd (Sh.hfix 0 96 (Sh.snd (Sh.cons (Sh.osl 1) Sh.nil)) (Sh.fst (Sh.hrow 1 5 Sh.hnil))))))
def c18_0_10 : Pk G (((List (Int × Int × Int × Int × Int × Int × Int × Int)) × Int × Int × Int × (List (Int × Int × Int × Int × Int × Int × Int × Int)) × Int × Int) × List Int × List Int) := (pk (Sh.cons (Sh.ros 56) (Sh.snd (Sh.cons (Sh.ptr 0 0) (Sh.snd (Sh.cons (Sh.osl 2) (Sh.cons (Sh.int .i64) (Sh.cons (Sh.int .i64) (Sh.cons (Sh.int .i64) (Sh.cons (Sh.ros 56) (Sh.cons (Sh.int .i64) (Sh.fst (Sh.cons (Sh.int .i64) Sh.nil)))))))))))) (Sh.hrow 2 5 (Sh.snd (Sh.hfix 0 96 (Sh.snd (Sh.cons (Sh.osl 1) Sh.nil)) (Sh.fst (Sh.hrow 1 5 Sh.hnil))))))
def B18_0_6 (K : ((((List (Int × Int × Int × Int × Int × Int × Int × Int)) × Int) × List Int × List Int) → Option (List Int)) × ((((List (Int × Int × Int × Int × Int × Int × Int × Int)) × Int × Int × Int × (List (Int × Int × Int × Int × Int × Int × Int × Int)) × Int × Int) × List Int × List Int) → Option (List Int))) (v : ((List (Int × Int × Int × Int × Int × Int × Int × Int)) × Int) × List Int × List Int) : Option (List Int) :=
  bif (decide (v.1.2 < (8 : Int))) then
    K.2 ((v.1.1, (v.1.2, ((0 : Int), (v.1.2, (v.1.1, (((v.1.1).length : Int), (0 : Int))))))), v.2)
  else
    (F39_0 v.2).bind fun r110 =>
    (F40_0 r110).bind fun r111 =>
    some (r111.1)

def B18_0_10 (K : ((((List (Int × Int × Int × Int × Int × Int × Int × Int)) × Int) × List Int × List Int) → Option (List Int)) × ((((List (Int × Int × Int × Int × Int × Int × Int × Int)) × Int × Int × Int × (List (Int × Int × Int × Int × Int × Int × Int × Int)) × Int × Int) × List Int × List Int) → Option (List Int))) (v : ((List (Int × Int × Int × Int × Int × Int × Int × Int)) × Int × Int × Int × (List (Int × Int × Int × Int × Int × Int × Int × Int)) × Int × Int) × List Int × List Int) : Option (List Int) :=
  bif (decide (v.1.2.2.2.2.2.2 < v.1.2.2.2.2.2.1)) then
    (rdx v.1.2.2.2.2.1 v.1.2.2.2.2.2.2).bind fun (x112 : Int × Int × Int × Int × Int × Int × Int × Int) =>
    (idx v.1.2.1 8).bind fun (x113 : Nat) =>
    let x114 : Int := (IntKind.wrap .i64 ((List.getD [x112.1, x112.2.1, x112.2.2.1, x112.2.2.2.1, x112.2.2.2.2.1, x112.2.2.2.2.2.1, x112.2.2.2.2.2.2.1, x112.2.2.2.2.2.2.2] x113 0) - v.1.2.2.1))
    (F38_0 (x114, v.2.1)).bind fun r115 =>
    (idx v.1.2.1 8).bind fun (x116 : Nat) =>
    let x117 : Int := (IntKind.wrap .i64 (v.1.2.2.2.2.2.2 + (1 : Int)))
    K.2 ((v.1.1, (v.1.2.1, ((List.getD [x112.1, x112.2.1, x112.2.2.1, x112.2.2.2.1, x112.2.2.2.2.1, x112.2.2.2.2.2.1, x112.2.2.2.2.2.2.1, x112.2.2.2.2.2.2.2] x116 0), (v.1.2.2.2.1, (v.1.2.2.2.2.1, (v.1.2.2.2.2.2.1, x117)))))), (r115, v.2.2))
  else
    let x118 : Int := (IntKind.wrap .i64 (v.1.2.2.2.1 + (1 : Int)))
    K.1 ((v.1.1, x118), v.2)

def E18_0 (K : ((((List (Int × Int × Int × Int × Int × Int × Int × Int)) × Int) × List Int × List Int) → Option (List Int)) × ((((List (Int × Int × Int × Int × Int × Int × Int × Int)) × Int × Int × Int × (List (Int × Int × Int × Int × Int × Int × Int × Int)) × Int × Int) × List Int × List Int) → Option (List Int))) (v : List (Int × Int × Int × Int × Int × Int × Int × Int)) : Option (List Int) :=
  (F36_0 (sc0, ([] : List Int))).bind fun r108 =>
  (F37_0 (((v).length : Int), r108)).bind fun r109 =>
  K.1 ((v, (0 : Int)), (([] : List Int), r109))

def K18_0 : Nat → ((((List (Int × Int × Int × Int × Int × Int × Int × Int)) × Int) × List Int × List Int) → Option (List Int)) × ((((List (Int × Int × Int × Int × Int × Int × Int × Int)) × Int × Int × Int × (List (Int × Int × Int × Int × Int × Int × Int × Int)) × Int × Int) × List Int × List Int) → Option (List Int))
  | 0 => (fun _ => none, fun _ => none)
  | n + 1 => (B18_0_6 (K18_0 n), B18_0_10 (K18_0 n))
def fuel18_0 (v : List (Int × Int × Int × Int × Int × Int × Int × Int)) : Nat := 8000
def F18_0 (v : List (Int × Int × Int × Int × Int × Int × Int × Int)) : Option (List Int) := E18_0 (K18_0 (fuel18_0 v)) v
noncomputable def k18_0 : List (Known Try.prog E) := [Known.of envOk [5, 3] [(.ptr 0 0 96 [(.own 1 5)]), .keep] v36_0 F36_0 w36_0 ok36_0, Known.of envOk [5, 1] [(.ptr 0 0 96 [(.own 1 5)]), .keep] v37_0 F37_0 w37_0 ok37_0, Known.of envOk [5, 7] [(.ptr 0 0 96 [(.own 1 5)]), (.ros 5)] v39_0 F39_0 w39_0 ok39_0, Known.of envOk [5] [(.ptr 0 0 96 [(.own 1 5)])] v40_0 F40_0 w40_0 ok40_0, Known.of envOk [7, 1] [(.own 0 5), .keep] v38_0 F38_0 w38_0 ok38_0]
def s18_0_10 : List (Nat × Pat) := [(0, (.ros 56)), (3, (.ptr 0 0 96 [(.own 1 5)])), (4, (.own 2 5)), (5, .keep), (6, .keep), (17, .keep), (20, (.ros 56)), (21, .keep), (22, .keep)]
def s18_0_6 : List (Nat × Pat) := [(0, (.ros 56)), (3, (.ptr 0 0 96 [(.own 1 5)])), (4, (.own 2 5)), (17, .keep)]
noncomputable def L18_0 (n id : Nat) (st : St G) : Option (List Int) := match Nat.beq id 6 with | true => cutK Try.prog s18_0_6 [] c18_0_6.dec (K18_0 n).1 st | false => match Nat.beq id 10 with | true => cutK Try.prog s18_0_10 [] c18_0_10.dec (K18_0 n).2 st | false => none
set_option maxRecDepth 100000 in
theorem e18_0 (n : Nat) (v : List (Int × Int × Int × Int × Int × Int × Int × Int)) : ev Try.prog E (oracle k18_0) Try.f18.ntmps (fun x => mem x [6, 10]) (L18_0 n) (finA Try.prog E Try.f18.results.toList [] w18_0.alts) 4000 [.code (Try.f18.body.getD .skip)] (argSt (v18_0.enc v)) = E18_0 (K18_0 n) v := by kernel_rfl
set_option maxRecDepth 100000 in
theorem b18_0_6 (n : Nat) (v : ((List (Int × Int × Int × Int × Int × Int × Int × Int)) × Int) × List Int × List Int) : evCut Try.prog E (oracle k18_0) Try.f18.ntmps (fun x => mem x [6, 10]) (L18_0 n) (finA Try.prog E Try.f18.results.toList [] w18_0.alts) 4000 (todoAt (Try.f18.body.getD .skip) 6) (cutSt s18_0_6 (c18_0_6.enc v)) = B18_0_6 (K18_0 n) v := by kernel_rfl
set_option maxRecDepth 100000 in
theorem b18_0_10 (n : Nat) (v : ((List (Int × Int × Int × Int × Int × Int × Int × Int)) × Int × Int × Int × (List (Int × Int × Int × Int × Int × Int × Int × Int)) × Int × Int) × List Int × List Int) : evCut Try.prog E (oracle k18_0) Try.f18.ntmps (fun x => mem x [6, 10]) (L18_0 n) (finA Try.prog E Try.f18.results.toList [] w18_0.alts) 4000 (todoAt (Try.f18.body.getD .skip) 10) (cutSt s18_0_10 (c18_0_10.enc v)) = B18_0_10 (K18_0 n) v := by kernel_rfl
theorem ok18_0 : FnOk Try.prog E 18 v18_0.enc F18_0 w18_0.enc :=
  fn_known (fn := Try.f18) (c := (Try.f18.body.getD .skip)) Try.func18 (by kernel_rfl) rfl envOk (oracle_ok k18_0) mixed v18_0 F18_0 w18_0 [] [6, 10] 4000 L18_0 (by kernel_rfl)
    (List.forall_mem_cons.2 ⟨⟨_, s18_0_6, c18_0_6.dec, c18_0_6.enc, fun n => (K18_0 n).1, c18_0_6.ok, fun _ _ => rfl, fun _ => rfl, fun n v _ h => (b18_0_6 n v).trans h⟩, List.forall_mem_cons.2 ⟨⟨_, s18_0_10, c18_0_10.dec, c18_0_10.enc, fun n => (K18_0 n).2, c18_0_10.ok, fun _ _ => rfl, fun _ => rfl, fun n v _ h => (b18_0_10 n v).trans h⟩, fun _ h => (nomatch h)⟩⟩) (fun v _ h => ⟨fuel18_0 v, (e18_0 _ v).trans h⟩) (fun _ => by kernel_rfl) (fun _ => by kernel_rfl) (fun _ _ => by kernel_rfl)
/- chicane/chicanelaw41.plain -/
abbrev A20_0 : Type := List (Int × Int × Int × Int × Int × Int × Int × Int)
abbrev R20_0 : Type := List (Int × Int × Int × Int × Int × Int × Int × Int)
def v20_0 : Pk G (List (Int × Int × Int × Int × Int × Int × Int × Int)) := (Pk.fst (pk (Sh.fst (Sh.cons (Sh.ros 56) Sh.nil)) Sh.hnil))
def w20_0 : Wk G (List (Int × Int × Int × Int × Int × Int × Int × Int)) := (Wk.one [(.own 0 55)] (Pk.snd (pk (Sh.snd (Sh.cons (Sh.osl 0) Sh.nil)) (Sh.fst (Sh.hrow 0 55 Sh.hnil)))))
def c20_0_3 : Pk G (((List (Int × Int × Int × Int × Int × Int × Int × Int)) × Int) × List (Int × Int × Int × Int × Int × Int × Int × Int)) := (pk (Sh.cons (Sh.ros 56) (Sh.snd (Sh.cons (Sh.osl 0) (Sh.fst (Sh.cons (Sh.int .i64) Sh.nil))))) (Sh.fst (Sh.hrow 0 55 Sh.hnil)))
def B20_0_3 (K : ((((List (Int × Int × Int × Int × Int × Int × Int × Int)) × Int) × List (Int × Int × Int × Int × Int × Int × Int × Int)) → Option (List (Int × Int × Int × Int × Int × Int × Int × Int)))) (v : ((List (Int × Int × Int × Int × Int × Int × Int × Int)) × Int) × List (Int × Int × Int × Int × Int × Int × Int × Int)) : Option (List (Int × Int × Int × Int × Int × Int × Int × Int)) :=
  bif (decide (v.1.2 < ((v.1.1).length : Int))) then
    (rdx v.1.1 v.1.2).bind fun (x129 : Int × Int × Int × Int × Int × Int × Int × Int) =>
    (chk (decide (((v.2).length + (([x129] : List (Int × Int × Int × Int × Int × Int × Int × Int))).length) * 64 ≤ 140737488355328))).bind fun _ =>
    let x130 : List (Int × Int × Int × Int × Int × Int × Int × Int) := (v.2 ++ ([x129] : List (Int × Int × Int × Int × Int × Int × Int × Int)))
    let x131 : Int := (IntKind.wrap .i64 (v.1.2 + (1 : Int)))
    K ((v.1.1, x131), x130)
  else
    some (v.2)

def E20_0 (K : ((((List (Int × Int × Int × Int × Int × Int × Int × Int)) × Int) × List (Int × Int × Int × Int × Int × Int × Int × Int)) → Option (List (Int × Int × Int × Int × Int × Int × Int × Int)))) (v : List (Int × Int × Int × Int × Int × Int × Int × Int)) : Option (List (Int × Int × Int × Int × Int × Int × Int × Int)) :=
  K ((v, (0 : Int)), ([] : List (Int × Int × Int × Int × Int × Int × Int × Int)))

def K20_0 : Nat → ((((List (Int × Int × Int × Int × Int × Int × Int × Int)) × Int) × List (Int × Int × Int × Int × Int × Int × Int × Int)) → Option (List (Int × Int × Int × Int × Int × Int × Int × Int)))
  | 0 => (fun _ => none)
  | n + 1 => (B20_0_3 (K20_0 n))
def fuel20_0 (v : List (Int × Int × Int × Int × Int × Int × Int × Int)) : Nat := 1000
def F20_0 (v : List (Int × Int × Int × Int × Int × Int × Int × Int)) : Option (List (Int × Int × Int × Int × Int × Int × Int × Int)) := E20_0 (K20_0 (fuel20_0 v)) v
noncomputable def k20_0 : List (Known Try.prog E) := []
def s20_0_3 : List (Nat × Pat) := [(0, (.ros 56)), (3, (.own 0 55)), (4, .keep)]
noncomputable def L20_0 (n id : Nat) (st : St G) : Option (List (Int × Int × Int × Int × Int × Int × Int × Int)) := match Nat.beq id 3 with | true => cutK Try.prog s20_0_3 [] c20_0_3.dec (K20_0 n) st | false => none
set_option maxRecDepth 100000 in
theorem e20_0 (n : Nat) (v : List (Int × Int × Int × Int × Int × Int × Int × Int)) : ev Try.prog E (oracle k20_0) Try.f20.ntmps (fun x => mem x [3]) (L20_0 n) (finA Try.prog E Try.f20.results.toList [] w20_0.alts) 4000 [.code (Try.f20.body.getD .skip)] (argSt (v20_0.enc v)) = E20_0 (K20_0 n) v := by kernel_rfl
set_option maxRecDepth 100000 in
theorem b20_0_3 (n : Nat) (v : ((List (Int × Int × Int × Int × Int × Int × Int × Int)) × Int) × List (Int × Int × Int × Int × Int × Int × Int × Int)) : evCut Try.prog E (oracle k20_0) Try.f20.ntmps (fun x => mem x [3]) (L20_0 n) (finA Try.prog E Try.f20.results.toList [] w20_0.alts) 4000 (todoAt (Try.f20.body.getD .skip) 3) (cutSt s20_0_3 (c20_0_3.enc v)) = B20_0_3 (K20_0 n) v := by kernel_rfl
theorem ok20_0 : FnOk Try.prog E 20 v20_0.enc F20_0 w20_0.enc :=
  fn_known (fn := Try.f20) (c := (Try.f20.body.getD .skip)) Try.func20 (by kernel_rfl) rfl envOk (oracle_ok k20_0) mixed v20_0 F20_0 w20_0 [] [3] 4000 L20_0 (by kernel_rfl)
    (List.forall_mem_cons.2 ⟨⟨_, s20_0_3, c20_0_3.dec, c20_0_3.enc, fun n => (K20_0 n), c20_0_3.ok, fun _ _ => rfl, fun _ => rfl, fun n v _ h => (b20_0_3 n v).trans h⟩, fun _ h => (nomatch h)⟩) (fun v _ h => ⟨fuel20_0 v, (e20_0 _ v).trans h⟩) (fun _ => by kernel_rfl) (fun _ => by kernel_rfl) (fun _ _ => by kernel_rfl)
/- chicane/chicaneref10.Mark -/
abbrev A41_0 : Type := ByteArray
abbrev R41_0 : Type := List Int
def v41_0 : Pk G ByteArray := (Pk.fst (pk (Sh.fst (Sh.cons Sh.str Sh.nil)) Sh.hnil))
def w41_0 : Wk G (List Int) := (Wk.one [(.own 0 5)] (Pk.snd (pk (Sh.snd (Sh.cons (Sh.osl 0) Sh.nil)) (Sh.fst (Sh.hrow 0 5 Sh.hnil)))))
def c41_0_3 : Pk G ((ByteArray × Int) × List Int) := (pk (Sh.cons Sh.str (Sh.snd (Sh.cons (Sh.osl 0) (Sh.fst (Sh.cons (Sh.int .i64) Sh.nil))))) (Sh.fst (Sh.hrow 0 5 Sh.hnil)))
def B41_0_3 (K : (((ByteArray × Int) × List Int) → Option (List Int))) (v : (ByteArray × Int) × List Int) : Option (List Int) :=
  bif (decide (v.1.2 < (4 : Int))) then
    bif (decide (v.1.2 < ((v.1.1).size : Int))) then
      (rdb v.1.1 v.1.2).bind fun (x145 : UInt8) =>
      (chk (decide (((v.2).length + (([(x145.toNat : Int)] : List Int)).length) * 1 ≤ 140737488355328))).bind fun _ =>
      let x146 : List Int := (v.2 ++ ([(x145.toNat : Int)] : List Int))
      let x147 : Int := (IntKind.wrap .i64 (v.1.2 + (1 : Int)))
      K ((v.1.1, x147), x146)
    else
      (chk (decide (((v.2).length + (([(0 : Int)] : List Int)).length) * 1 ≤ 140737488355328))).bind fun _ =>
      let x148 : List Int := (v.2 ++ ([(0 : Int)] : List Int))
      let x149 : Int := (IntKind.wrap .i64 (v.1.2 + (1 : Int)))
      K ((v.1.1, x149), x148)
  else
    some (v.2)

def E41_0 (K : (((ByteArray × Int) × List Int) → Option (List Int))) (v : ByteArray) : Option (List Int) :=
  K ((v, (0 : Int)), ([] : List Int))

def K41_0 : Nat → (((ByteArray × Int) × List Int) → Option (List Int))
  | 0 => (fun _ => none)
  | n + 1 => (B41_0_3 (K41_0 n))
def fuel41_0 (v : ByteArray) : Nat := 1000
def F41_0 (v : ByteArray) : Option (List Int) := E41_0 (K41_0 (fuel41_0 v)) v
noncomputable def k41_0 : List (Known Try.prog E) := []
def s41_0_3 : List (Nat × Pat) := [(0, .keep), (3, (.own 0 5)), (4, .keep)]
noncomputable def L41_0 (n id : Nat) (st : St G) : Option (List Int) := match Nat.beq id 3 with | true => cutK Try.prog s41_0_3 [] c41_0_3.dec (K41_0 n) st | false => none
set_option maxRecDepth 100000 in
theorem e41_0 (n : Nat) (v : ByteArray) : ev Try.prog E (oracle k41_0) Try.f41.ntmps (fun x => mem x [3]) (L41_0 n) (finA Try.prog E Try.f41.results.toList [] w41_0.alts) 4000 [.code (Try.f41.body.getD .skip)] (argSt (v41_0.enc v)) = E41_0 (K41_0 n) v := by kernel_rfl
set_option maxRecDepth 100000 in
theorem b41_0_3 (n : Nat) (v : (ByteArray × Int) × List Int) : evCut Try.prog E (oracle k41_0) Try.f41.ntmps (fun x => mem x [3]) (L41_0 n) (finA Try.prog E Try.f41.results.toList [] w41_0.alts) 4000 (todoAt (Try.f41.body.getD .skip) 3) (cutSt s41_0_3 (c41_0_3.enc v)) = B41_0_3 (K41_0 n) v := by kernel_rfl
theorem ok41_0 : FnOk Try.prog E 41 v41_0.enc F41_0 w41_0.enc :=
  fn_known (fn := Try.f41) (c := (Try.f41.body.getD .skip)) Try.func41 (by kernel_rfl) rfl envOk (oracle_ok k41_0) mixed v41_0 F41_0 w41_0 [] [3] 4000 L41_0 (by kernel_rfl)
    (List.forall_mem_cons.2 ⟨⟨_, s41_0_3, c41_0_3.dec, c41_0_3.enc, fun n => (K41_0 n), c41_0_3.ok, fun _ _ => rfl, fun _ => rfl, fun n v _ h => (b41_0_3 n v).trans h⟩, fun _ h => (nomatch h)⟩) (fun v _ h => ⟨fuel41_0 v, (e41_0 _ v).trans h⟩) (fun _ => by kernel_rfl) (fun _ => by kernel_rfl) (fun _ _ => by kernel_rfl)
/- chicane/chicaneref10.Num -/
abbrev A42_0 : Type := Int
abbrev R42_0 : Type := List Int
def v42_0 : Pk G Int := (Pk.fst (pk (Sh.fst (Sh.cons (Sh.int .i64) Sh.nil)) Sh.hnil))
def w42_0 : Wk G (List Int) := (Wk.one [(.own 0 5)] (Pk.snd (pk (Sh.snd (Sh.cons (Sh.osl 0) Sh.nil)) (Sh.fst (Sh.hrow 0 5 Sh.hnil)))))
def c42_0_4 : Pk G ((Int × Int) × List Int) := (pk (Sh.snd (Sh.cons (Sh.osl 0) (Sh.cons (Sh.int .u64) (Sh.fst (Sh.cons (Sh.int .i64) Sh.nil))))) (Sh.fst (Sh.hrow 0 5 Sh.hnil)))
def B42_0_4 (K : (((Int × Int) × List Int) → Option (List Int))) (v : (Int × Int) × List Int) : Option (List Int) :=
  bif (decide (v.1.2 < (8 : Int))) then
    let x166 : Int := (Int.tmod v.1.1 (256 : Int))
    let x167 : Int := (IntKind.wrap .u8 x166)
    (chk (decide (((v.2).length + (([x167] : List Int)).length) * 1 ≤ 140737488355328))).bind fun _ =>
    let x168 : List Int := (v.2 ++ ([x167] : List Int))
    let x169 : Int := (IntKind.wrap .u64 (Int.tdiv v.1.1 (256 : Int)))
    let x170 : Int := (IntKind.wrap .i64 (v.1.2 + (1 : Int)))
    K ((x169, x170), x168)
  else
    some (v.2)

def E42_0 (K : (((Int × Int) × List Int) → Option (List Int))) (v : Int) : Option (List Int) :=
  let x165 : Int := (IntKind.wrap .u64 v)
  K ((x165, (0 : Int)), ([] : List Int))

def K42_0 : Nat → (((Int × Int) × List Int) → Option (List Int))
  | 0 => (fun _ => none)
  | n + 1 => (B42_0_4 (K42_0 n))
def fuel42_0 (v : Int) : Nat := 1000
def F42_0 (v : Int) : Option (List Int) := E42_0 (K42_0 (fuel42_0 v)) v
noncomputable def k42_0 : List (Known Try.prog E) := []
def s42_0_4 : List (Nat × Pat) := [(3, (.own 0 5)), (4, .keep), (5, .keep)]
noncomputable def L42_0 (n id : Nat) (st : St G) : Option (List Int) := match Nat.beq id 4 with | true => cutK Try.prog s42_0_4 [] c42_0_4.dec (K42_0 n) st | false => none
set_option maxRecDepth 100000 in
theorem e42_0 (n : Nat) (v : Int) : ev Try.prog E (oracle k42_0) Try.f42.ntmps (fun x => mem x [4]) (L42_0 n) (finA Try.prog E Try.f42.results.toList [] w42_0.alts) 4000 [.code (Try.f42.body.getD .skip)] (argSt (v42_0.enc v)) = E42_0 (K42_0 n) v := by kernel_rfl
set_option maxRecDepth 100000 in
theorem b42_0_4 (n : Nat) (v : (Int × Int) × List Int) : evCut Try.prog E (oracle k42_0) Try.f42.ntmps (fun x => mem x [4]) (L42_0 n) (finA Try.prog E Try.f42.results.toList [] w42_0.alts) 4000 (todoAt (Try.f42.body.getD .skip) 4) (cutSt s42_0_4 (c42_0_4.enc v)) = B42_0_4 (K42_0 n) v := by kernel_rfl
theorem ok42_0 : FnOk Try.prog E 42 v42_0.enc F42_0 w42_0.enc :=
  fn_known (fn := Try.f42) (c := (Try.f42.body.getD .skip)) Try.func42 (by kernel_rfl) rfl envOk (oracle_ok k42_0) mixed v42_0 F42_0 w42_0 [] [4] 4000 L42_0 (by kernel_rfl)
    (List.forall_mem_cons.2 ⟨⟨_, s42_0_4, c42_0_4.dec, c42_0_4.enc, fun n => (K42_0 n), c42_0_4.ok, fun _ _ => rfl, fun _ => rfl, fun n v _ h => (b42_0_4 n v).trans h⟩, fun _ h => (nomatch h)⟩) (fun v _ h => ⟨fuel42_0 v, (e42_0 _ v).trans h⟩) (fun _ => by kernel_rfl) (fun _ => by kernel_rfl) (fun _ _ => by kernel_rfl)
/- chicane/chicaneref41.short -/
abbrev A43_0 : Type := Int
abbrev R43_0 : Type := List Int
def v43_0 : Pk G Int := (Pk.fst (pk (Sh.fst (Sh.cons (Sh.int .i64) Sh.nil)) Sh.hnil))
def w43_0 : Wk G (List Int) := (Wk.one [(.own 0 5)] (Pk.snd (pk (Sh.snd (Sh.cons (Sh.osl 0) Sh.nil)) (Sh.fst (Sh.hrow 0 5 Sh.hnil)))))
def c43_0_5 : Pk G (Int × List Int) := (pk (Sh.fst (Sh.cons (Sh.int .u64) (Sh.snd (Sh.cons (Sh.osl 0) Sh.nil)))) (Sh.fst (Sh.hrow 0 5 Sh.hnil)))
def B43_0_5 (K : ((Int × List Int) → Option (List Int))) (v : Int × List Int) : Option (List Int) :=
  bif (decide (v.1 ≥ (128 : Int))) then
    let x215 : Int := (Int.tmod v.1 (128 : Int))
    let x216 : Int := (IntKind.wrap .u64 (x215 + (128 : Int)))
    let x217 : Int := (IntKind.wrap .u8 x216)
    (chk (decide (((v.2).length + (([x217] : List Int)).length) * 1 ≤ 140737488355328))).bind fun _ =>
    let x218 : List Int := (v.2 ++ ([x217] : List Int))
    let x219 : Int := (IntKind.wrap .u64 (Int.tdiv v.1 (128 : Int)))
    K (x219, x218)
  else
    let x220 : Int := (IntKind.wrap .u8 v.1)
    (chk (decide (((v.2).length + (([x220] : List Int)).length) * 1 ≤ 140737488355328))).bind fun _ =>
    let x221 : List Int := (v.2 ++ ([x220] : List Int))
    some (x221)

def E43_0 (K : ((Int × List Int) → Option (List Int))) (v : Int) : Option (List Int) :=
  let x208 : Int := (IntKind.wrap .u64 v)
  let x209 : Int := (IntKind.wrap .u64 (x208 * (2 : Int)))
  bif (decide (v < (0 : Int))) then
    let x210 : Int := (IntKind.wrap .i64 (v + (1 : Int)))
    let x211 : Int := (IntKind.wrap .i64 (0 - x210))
    let x212 : Int := (IntKind.wrap .u64 x211)
    let x213 : Int := (IntKind.wrap .u64 (x212 * (2 : Int)))
    let x214 : Int := (IntKind.wrap .u64 (x213 + (1 : Int)))
    K (x214, ([] : List Int))
  else
    K (x209, ([] : List Int))

def K43_0 : Nat → ((Int × List Int) → Option (List Int))
  | 0 => (fun _ => none)
  | n + 1 => (B43_0_5 (K43_0 n))
def fuel43_0 (v : Int) : Nat := 1000
def F43_0 (v : Int) : Option (List Int) := E43_0 (K43_0 (fuel43_0 v)) v
noncomputable def k43_0 : List (Known Try.prog E) := []
def s43_0_5 : List (Nat × Pat) := [(3, .keep), (4, (.own 0 5))]
noncomputable def L43_0 (n id : Nat) (st : St G) : Option (List Int) := match Nat.beq id 5 with | true => cutK Try.prog s43_0_5 [] c43_0_5.dec (K43_0 n) st | false => none
set_option maxRecDepth 100000 in
theorem e43_0 (n : Nat) (v : Int) : ev Try.prog E (oracle k43_0) Try.f43.ntmps (fun x => mem x [5]) (L43_0 n) (finA Try.prog E Try.f43.results.toList [] w43_0.alts) 4000 [.code (Try.f43.body.getD .skip)] (argSt (v43_0.enc v)) = E43_0 (K43_0 n) v := by kernel_rfl
set_option maxRecDepth 100000 in
theorem b43_0_5 (n : Nat) (v : Int × List Int) : evCut Try.prog E (oracle k43_0) Try.f43.ntmps (fun x => mem x [5]) (L43_0 n) (finA Try.prog E Try.f43.results.toList [] w43_0.alts) 4000 (todoAt (Try.f43.body.getD .skip) 5) (cutSt s43_0_5 (c43_0_5.enc v)) = B43_0_5 (K43_0 n) v := by kernel_rfl
theorem ok43_0 : FnOk Try.prog E 43 v43_0.enc F43_0 w43_0.enc :=
  fn_known (fn := Try.f43) (c := (Try.f43.body.getD .skip)) Try.func43 (by kernel_rfl) rfl envOk (oracle_ok k43_0) mixed v43_0 F43_0 w43_0 [] [5] 4000 L43_0 (by kernel_rfl)
    (List.forall_mem_cons.2 ⟨⟨_, s43_0_5, c43_0_5.dec, c43_0_5.enc, fun n => (K43_0 n), c43_0_5.ok, fun _ _ => rfl, fun _ => rfl, fun n v _ h => (b43_0_5 n v).trans h⟩, fun _ h => (nomatch h)⟩) (fun v _ h => ⟨fuel43_0 v, (e43_0 _ v).trans h⟩) (fun _ => by kernel_rfl) (fun _ => by kernel_rfl) (fun _ _ => by kernel_rfl)
/- chicane/chicaneref41.Pack -/
abbrev A19_0 : Type := List (Int × Int × Int × Int × Int × Int × Int × Int)
abbrev R19_0 : Type := List Int
def v19_0 : Pk G (List (Int × Int × Int × Int × Int × Int × Int × Int)) := (Pk.fst (pk (Sh.fst (Sh.cons (Sh.ros 55) Sh.nil)) Sh.hnil))
def w19_0 : Wk G (List Int) := (Wk.one [(.own 0 5)] (Pk.snd (pk (Sh.snd (Sh.cons (Sh.osl 0) Sh.nil)) (Sh.fst (Sh.hrow 0 5 Sh.hnil)))))
def c19_0_3 : Pk G (((List (Int × Int × Int × Int × Int × Int × Int × Int)) × Int) × List Int) := (pk (Sh.cons (Sh.ros 55) (Sh.snd (Sh.cons (Sh.osl 0) (Sh.fst (Sh.cons (Sh.int .i64) Sh.nil))))) (Sh.fst (Sh.hrow 0 5 Sh.hnil)))
def c19_0_7 : Pk G (((List (Int × Int × Int × Int × Int × Int × Int × Int)) × Int × Int × Int) × List Int) := (pk (Sh.cons (Sh.ros 55) (Sh.snd (Sh.cons (Sh.osl 0) (Sh.cons (Sh.int .i64) (Sh.cons (Sh.int .i64) (Sh.fst (Sh.cons (Sh.int .i64) Sh.nil))))))) (Sh.fst (Sh.hrow 0 5 Sh.hnil)))
def B19_0_3 (K : ((((List (Int × Int × Int × Int × Int × Int × Int × Int)) × Int) × List Int) → Option (List Int)) × ((((List (Int × Int × Int × Int × Int × Int × Int × Int)) × Int × Int × Int) × List Int) → Option (List Int))) (v : ((List (Int × Int × Int × Int × Int × Int × Int × Int)) × Int) × List Int) : Option (List Int) :=
  bif (decide (v.1.2 < (8 : Int))) then
    K.2 ((v.1.1, (v.1.2, ((0 : Int), (0 : Int)))), v.2)
  else
    some (v.2)

def B19_0_7 (K : ((((List (Int × Int × Int × Int × Int × Int × Int × Int)) × Int) × List Int) → Option (List Int)) × ((((List (Int × Int × Int × Int × Int × Int × Int × Int)) × Int × Int × Int) × List Int) → Option (List Int))) (v : ((List (Int × Int × Int × Int × Int × Int × Int × Int)) × Int × Int × Int) × List Int) : Option (List Int) :=
  bif (decide (v.1.2.2.2 < ((v.1.1).length : Int))) then
    (rdx v.1.1 v.1.2.2.2).bind fun (x264 : Int × Int × Int × Int × Int × Int × Int × Int) =>
    (idx v.1.2.1 8).bind fun (x265 : Nat) =>
    let x266 : Int := (IntKind.wrap .i64 ((List.getD [x264.1, x264.2.1, x264.2.2.1, x264.2.2.2.1, x264.2.2.2.2.1, x264.2.2.2.2.2.1, x264.2.2.2.2.2.2.1, x264.2.2.2.2.2.2.2] x265 0) - v.1.2.2.1))
    (F43_0 x266).bind fun r267 =>
    (chk (decide (((v.2).length + (r267).length) * 1 ≤ 140737488355328))).bind fun _ =>
    let x268 : List Int := (v.2 ++ r267)
    (rdx v.1.1 v.1.2.2.2).bind fun (x269 : Int × Int × Int × Int × Int × Int × Int × Int) =>
    (idx v.1.2.1 8).bind fun (x270 : Nat) =>
    let x271 : Int := (IntKind.wrap .i64 (v.1.2.2.2 + (1 : Int)))
    K.2 ((v.1.1, (v.1.2.1, ((List.getD [x269.1, x269.2.1, x269.2.2.1, x269.2.2.2.1, x269.2.2.2.2.1, x269.2.2.2.2.2.1, x269.2.2.2.2.2.2.1, x269.2.2.2.2.2.2.2] x270 0), x271))), x268)
  else
    let x272 : Int := (IntKind.wrap .i64 (v.1.2.1 + (1 : Int)))
    K.1 ((v.1.1, x272), v.2)

def E19_0 (K : ((((List (Int × Int × Int × Int × Int × Int × Int × Int)) × Int) × List Int) → Option (List Int)) × ((((List (Int × Int × Int × Int × Int × Int × Int × Int)) × Int × Int × Int) × List Int) → Option (List Int))) (v : List (Int × Int × Int × Int × Int × Int × Int × Int)) : Option (List Int) :=
  (F41_0 sc0).bind fun r261 =>
  (F42_0 ((v).length : Int)).bind fun r262 =>
  (chk (decide (((r261).length + (r262).length) * 1 ≤ 140737488355328))).bind fun _ =>
  let x263 : List Int := (r261 ++ r262)
  K.1 ((v, (0 : Int)), x263)

def K19_0 : Nat → ((((List (Int × Int × Int × Int × Int × Int × Int × Int)) × Int) × List Int) → Option (List Int)) × ((((List (Int × Int × Int × Int × Int × Int × Int × Int)) × Int × Int × Int) × List Int) → Option (List Int))
  | 0 => (fun _ => none, fun _ => none)
  | n + 1 => (B19_0_3 (K19_0 n), B19_0_7 (K19_0 n))
def fuel19_0 (v : List (Int × Int × Int × Int × Int × Int × Int × Int)) : Nat := 4000
def F19_0 (v : List (Int × Int × Int × Int × Int × Int × Int × Int)) : Option (List Int) := E19_0 (K19_0 (fuel19_0 v)) v
noncomputable def k19_0 : List (Known Try.prog E) := [Known.of envOk [3] [.keep] v41_0 F41_0 w41_0 ok41_0, Known.of envOk [1] [.keep] v42_0 F42_0 w42_0 ok42_0, Known.of envOk [1] [.keep] v43_0 F43_0 w43_0 ok43_0]
def s19_0_7 : List (Nat × Pat) := [(0, (.ros 55)), (3, (.own 0 5)), (4, .keep), (5, .keep), (6, .keep)]
def s19_0_3 : List (Nat × Pat) := [(0, (.ros 55)), (3, (.own 0 5)), (4, .keep)]
noncomputable def L19_0 (n id : Nat) (st : St G) : Option (List Int) := match Nat.beq id 3 with | true => cutK Try.prog s19_0_3 [] c19_0_3.dec (K19_0 n).1 st | false => match Nat.beq id 7 with | true => cutK Try.prog s19_0_7 [] c19_0_7.dec (K19_0 n).2 st | false => none
set_option maxRecDepth 100000 in
theorem e19_0 (n : Nat) (v : List (Int × Int × Int × Int × Int × Int × Int × Int)) : ev Try.prog E (oracle k19_0) Try.f19.ntmps (fun x => mem x [3, 7]) (L19_0 n) (finA Try.prog E Try.f19.results.toList [] w19_0.alts) 4000 [.code (Try.f19.body.getD .skip)] (argSt (v19_0.enc v)) = E19_0 (K19_0 n) v := by kernel_rfl
set_option maxRecDepth 100000 in
theorem b19_0_3 (n : Nat) (v : ((List (Int × Int × Int × Int × Int × Int × Int × Int)) × Int) × List Int) : evCut Try.prog E (oracle k19_0) Try.f19.ntmps (fun x => mem x [3, 7]) (L19_0 n) (finA Try.prog E Try.f19.results.toList [] w19_0.alts) 4000 (todoAt (Try.f19.body.getD .skip) 3) (cutSt s19_0_3 (c19_0_3.enc v)) = B19_0_3 (K19_0 n) v := by kernel_rfl
set_option maxRecDepth 100000 in
theorem b19_0_7 (n : Nat) (v : ((List (Int × Int × Int × Int × Int × Int × Int × Int)) × Int × Int × Int) × List Int) : evCut Try.prog E (oracle k19_0) Try.f19.ntmps (fun x => mem x [3, 7]) (L19_0 n) (finA Try.prog E Try.f19.results.toList [] w19_0.alts) 4000 (todoAt (Try.f19.body.getD .skip) 7) (cutSt s19_0_7 (c19_0_7.enc v)) = B19_0_7 (K19_0 n) v := by kernel_rfl
theorem ok19_0 : FnOk Try.prog E 19 v19_0.enc F19_0 w19_0.enc :=
  fn_known (fn := Try.f19) (c := (Try.f19.body.getD .skip)) Try.func19 (by kernel_rfl) rfl envOk (oracle_ok k19_0) mixed v19_0 F19_0 w19_0 [] [3, 7] 4000 L19_0 (by kernel_rfl)
    (List.forall_mem_cons.2 ⟨⟨_, s19_0_3, c19_0_3.dec, c19_0_3.enc, fun n => (K19_0 n).1, c19_0_3.ok, fun _ _ => rfl, fun _ => rfl, fun n v _ h => (b19_0_3 n v).trans h⟩, List.forall_mem_cons.2 ⟨⟨_, s19_0_7, c19_0_7.dec, c19_0_7.enc, fun n => (K19_0 n).2, c19_0_7.ok, fun _ _ => rfl, fun _ => rfl, fun n v _ h => (b19_0_7 n v).trans h⟩, fun _ h => (nomatch h)⟩⟩) (fun v _ h => ⟨fuel19_0 v, (e19_0 _ v).trans h⟩) (fun _ => by kernel_rfl) (fun _ => by kernel_rfl) (fun _ _ => by kernel_rfl)
/- math/bits.Mul64 -/
abbrev A98_0 : Type := Int × Int
abbrev R98_0 : Type := Int × Int
def v98_0 : Pk G (Int × Int) := (Pk.fst (pk (Sh.cons (Sh.int .u64) (Sh.fst (Sh.cons (Sh.int .u64) Sh.nil))) Sh.hnil))
def w98_0 : Wk G (Int × Int) := (Wk.one [.keep, .keep] (Pk.fst (pk (Sh.cons (Sh.int .u64) (Sh.fst (Sh.cons (Sh.int .u64) Sh.nil))) Sh.hnil)))
def F98_0 (v : Int × Int) : Option (Int × Int) :=
  let x317 : Int := (Go.bits .and .u64 v.1 (4294967295 : Int))
  let x318 : Int := (Int.fdiv v.1 (2 ^ 32))
  let x319 : Int := (Go.bits .and .u64 v.2 (4294967295 : Int))
  let x320 : Int := (Int.fdiv v.2 (2 ^ 32))
  let x321 : Int := (IntKind.wrap .u64 (x317 * x319))
  let x322 : Int := (IntKind.wrap .u64 (x318 * x319))
  let x323 : Int := (Int.fdiv x321 (2 ^ 32))
  let x324 : Int := (IntKind.wrap .u64 (x322 + x323))
  let x325 : Int := (Go.bits .and .u64 x324 (4294967295 : Int))
  let x326 : Int := (Int.fdiv x324 (2 ^ 32))
  let x327 : Int := (IntKind.wrap .u64 (x317 * x320))
  let x328 : Int := (IntKind.wrap .u64 (x325 + x327))
  let x329 : Int := (IntKind.wrap .u64 (x318 * x320))
  let x330 : Int := (IntKind.wrap .u64 (x329 + x326))
  let x331 : Int := (Int.fdiv x328 (2 ^ 32))
  let x332 : Int := (IntKind.wrap .u64 (x330 + x331))
  let x333 : Int := (IntKind.wrap .u64 (v.1 * v.2))
  some (x332, x333)

noncomputable def k98_0 : List (Known Try.prog E) := []
noncomputable def L98_0 (n id : Nat) (st : St G) : Option (Int × Int) := none
set_option maxRecDepth 100000 in
theorem e98_0 (n : Nat) (v : Int × Int) : ev Try.prog E (oracle k98_0) Try.f98.ntmps (fun x => mem x []) (L98_0 n) (finA Try.prog E Try.f98.results.toList [] w98_0.alts) 4000 [.code (Try.f98.body.getD .skip)] (argSt (v98_0.enc v)) = F98_0 v := by kernel_rfl
theorem ok98_0 : FnOk Try.prog E 98 v98_0.enc F98_0 w98_0.enc :=
  fn_known (fn := Try.f98) (c := (Try.f98.body.getD .skip)) Try.func98 (by kernel_rfl) rfl envOk (oracle_ok k98_0) mixed v98_0 F98_0 w98_0 [] [] 4000 L98_0 (by kernel_rfl)
    (fun _ h => nomatch h) (fun v _ h => ⟨0, (e98_0 _ v).trans h⟩) (fun _ => by kernel_rfl) (fun _ => by kernel_rfl) (fun _ _ => by kernel_rfl)
/- chicane/wide.Mul -/
abbrev A71_0 : Type := Int × Int
abbrev R71_0 : Type := Int × Int
def v71_0 : Pk G (Int × Int) := (Pk.fst (pk (Sh.cons (Sh.int .i64) (Sh.fst (Sh.cons (Sh.int .i64) Sh.nil))) Sh.hnil))
def w71_0 : Wk G (Int × Int) := (Wk.one [(.agg [.keep, .keep])] (Pk.fst (pk (Sh.fst (Sh.cons (Sh.agg (Sh.cons (Sh.int .i64) (Sh.fst (Sh.cons (Sh.int .u64) Sh.nil)))) Sh.nil)) Sh.hnil)))
def F71_0 (v : Int × Int) : Option (Int × Int) :=
  let x358 : Int := (IntKind.wrap .u64 v.1)
  let x359 : Int := (IntKind.wrap .u64 v.2)
  (F98_0 (x358, x359)).bind fun r360 =>
  bif (decide (v.1 < (0 : Int))) then
    let x361 : Int := (IntKind.wrap .u64 v.2)
    let x362 : Int := (IntKind.wrap .u64 (r360.1 - x361))
    bif (decide (v.2 < (0 : Int))) then
      let x363 : Int := (IntKind.wrap .u64 v.1)
      let x364 : Int := (IntKind.wrap .u64 (x362 - x363))
      let x365 : Int := (IntKind.wrap .i64 x364)
      some (x365, r360.2)
    else
      let x366 : Int := (IntKind.wrap .i64 x362)
      some (x366, r360.2)
  else
    bif (decide (v.2 < (0 : Int))) then
      let x367 : Int := (IntKind.wrap .u64 v.1)
      let x368 : Int := (IntKind.wrap .u64 (r360.1 - x367))
      let x369 : Int := (IntKind.wrap .i64 x368)
      some (x369, r360.2)
    else
      let x370 : Int := (IntKind.wrap .i64 r360.1)
      some (x370, r360.2)

noncomputable def k71_0 : List (Known Try.prog E) := [Known.of envOk [1, 1] [.keep, .keep] v98_0 F98_0 w98_0 ok98_0]
noncomputable def L71_0 (n id : Nat) (st : St G) : Option (Int × Int) := none
set_option maxRecDepth 100000 in
theorem e71_0 (n : Nat) (v : Int × Int) : ev Try.prog E (oracle k71_0) Try.f71.ntmps (fun x => mem x []) (L71_0 n) (finA Try.prog E Try.f71.results.toList [] w71_0.alts) 4000 [.code (Try.f71.body.getD .skip)] (argSt (v71_0.enc v)) = F71_0 v := by kernel_rfl
theorem ok71_0 : FnOk Try.prog E 71 v71_0.enc F71_0 w71_0.enc :=
  fn_known (fn := Try.f71) (c := (Try.f71.body.getD .skip)) Try.func71 (by kernel_rfl) rfl envOk (oracle_ok k71_0) mixed v71_0 F71_0 w71_0 [] [] 4000 L71_0 (by kernel_rfl)
    (fun _ h => nomatch h) (fun v _ h => ⟨0, (e71_0 _ v).trans h⟩) (fun _ => by kernel_rfl) (fun _ => by kernel_rfl) (fun _ _ => by kernel_rfl)
/- math/bits.Add64 -/
abbrev A96_x : Type := Int × Int × Int
abbrev R96_x : Type := Int × Int
def v96_x : Pk G (Int × Int × Int) := p3u
def w96_x : Wk G (Int × Int) := Wk.one [.keep, .keep] p2u
def F96_x (v : Int × Int × Int) : Option (Int × Int) := add64F v
theorem ok96_x : FnOk Try.prog E 96 v96_x.enc F96_x w96_x.enc := add64_known Try.func96 (by kernel_rfl) (by kernel_rfl) (by kernel_rfl) (by kernel_rfl)
/- chicane/wide.Add -/
abbrev A68_0 : Type := (Int × Int) × Int × Int
abbrev R68_0 : Type := (Int × Int) × Bool
def v68_0 : Pk G ((Int × Int) × Int × Int) := (Pk.fst (pk (Sh.cons (Sh.agg (Sh.cons (Sh.int .i64) (Sh.fst (Sh.cons (Sh.int .u64) Sh.nil)))) (Sh.fst (Sh.cons (Sh.agg (Sh.cons (Sh.int .i64) (Sh.fst (Sh.cons (Sh.int .u64) Sh.nil)))) Sh.nil))) Sh.hnil))
def w68_0 : Wk G ((Int × Int) × Bool) := (Wk.one [(.agg [.keep, .keep]), .keep] (Pk.fst (pk (Sh.cons (Sh.agg (Sh.cons (Sh.int .i64) (Sh.fst (Sh.cons (Sh.int .u64) Sh.nil)))) (Sh.fst (Sh.cons Sh.bool Sh.nil))) Sh.hnil)))
def F68_0 (v : (Int × Int) × Int × Int) : Option ((Int × Int) × Bool) :=
  (F96_x (v.1.2, (v.2.2, (0 : Int)))).bind fun r386 =>
  let x387 : Int := (IntKind.wrap .u64 v.1.1)
  let x388 : Int := (IntKind.wrap .u64 v.2.1)
  (F96_x (x387, (x388, r386.2))).bind fun r389 =>
  bif ((decide (v.1.1 < (0 : Int))) == (decide (v.2.1 < (0 : Int)))) then
    let x390 : Int := (IntKind.wrap .i64 r389.1)
    bif (!((decide (x390 < (0 : Int))) == (decide (v.1.1 < (0 : Int))))) then
      some (((0 : Int), (0 : Int)), false)
    else
      let x391 : Int := (IntKind.wrap .i64 r389.1)
      some ((x391, r386.1), true)
  else
    let x392 : Int := (IntKind.wrap .i64 r389.1)
    some ((x392, r386.1), true)

noncomputable def k68_0 : List (Known Try.prog E) := [Known.of envOk [1, 1, 1] [.keep, .keep, .keep] v96_x F96_x w96_x ok96_x]
noncomputable def L68_0 (n id : Nat) (st : St G) : Option ((Int × Int) × Bool) := none
set_option maxRecDepth 100000 in
theorem e68_0 (n : Nat) (v : (Int × Int) × Int × Int) : ev Try.prog E (oracle k68_0) Try.f68.ntmps (fun x => mem x []) (L68_0 n) (finA Try.prog E Try.f68.results.toList [] w68_0.alts) 4000 [.code (Try.f68.body.getD .skip)] (argSt (v68_0.enc v)) = F68_0 v := by kernel_rfl
theorem ok68_0 : FnOk Try.prog E 68 v68_0.enc F68_0 w68_0.enc :=
  fn_known (fn := Try.f68) (c := (Try.f68.body.getD .skip)) Try.func68 (by kernel_rfl) rfl envOk (oracle_ok k68_0) mixed v68_0 F68_0 w68_0 [] [] 4000 L68_0 (by kernel_rfl)
    (fun _ h => nomatch h) (fun v _ h => ⟨0, (e68_0 _ v).trans h⟩) (fun _ => by kernel_rfl) (fun _ => by kernel_rfl) (fun _ _ => by kernel_rfl)
/- (chicane/wide.size).below -/
abbrev A64_0 : Type := (Int × Int) × Int × Int
abbrev R64_0 : Type := Bool
def v64_0 : Pk G ((Int × Int) × Int × Int) := (Pk.fst (pk (Sh.cons (Sh.agg (Sh.cons (Sh.int .u64) (Sh.fst (Sh.cons (Sh.int .u64) Sh.nil)))) (Sh.fst (Sh.cons (Sh.agg (Sh.cons (Sh.int .u64) (Sh.fst (Sh.cons (Sh.int .u64) Sh.nil)))) Sh.nil))) Sh.hnil))
def w64_0 : Wk G Bool := (Wk.one [.keep] (Pk.fst (pk (Sh.fst (Sh.cons Sh.bool Sh.nil)) Sh.hnil)))
def F64_0 (v : (Int × Int) × Int × Int) : Option Bool :=
  bif (decide (v.1.1 < v.2.1)) then
    some (true)
  else
    bif (v.1.1 == v.2.1) then
      some (decide (v.1.2 < v.2.2))
    else
      some (false)

noncomputable def k64_0 : List (Known Try.prog E) := []
noncomputable def L64_0 (n id : Nat) (st : St G) : Option Bool := none
set_option maxRecDepth 100000 in
theorem e64_0 (n : Nat) (v : (Int × Int) × Int × Int) : ev Try.prog E (oracle k64_0) Try.f64.ntmps (fun x => mem x []) (L64_0 n) (finA Try.prog E Try.f64.results.toList [] w64_0.alts) 4000 [.code (Try.f64.body.getD .skip)] (argSt (v64_0.enc v)) = F64_0 v := by kernel_rfl
theorem ok64_0 : FnOk Try.prog E 64 v64_0.enc F64_0 w64_0.enc :=
  fn_known (fn := Try.f64) (c := (Try.f64.body.getD .skip)) Try.func64 (by kernel_rfl) rfl envOk (oracle_ok k64_0) mixed v64_0 F64_0 w64_0 [] [] 4000 L64_0 (by kernel_rfl)
    (fun _ h => nomatch h) (fun v _ h => ⟨0, (e64_0 _ v).trans h⟩) (fun _ => by kernel_rfl) (fun _ => by kernel_rfl) (fun _ _ => by kernel_rfl)
/- chicane/wide.Root -/
abbrev A113_0 : Type := Int × Int
abbrev R113_0 : Type := Int
def v113_0 : Pk G (Int × Int) := (Pk.fst (pk (Sh.fst (Sh.cons (Sh.agg (Sh.cons (Sh.int .i64) (Sh.fst (Sh.cons (Sh.int .u64) Sh.nil)))) Sh.nil)) Sh.hnil))
def w113_0 : Wk G Int := (Wk.one [.keep] (Pk.fst (pk (Sh.fst (Sh.cons (Sh.int .u64) Sh.nil)) Sh.hnil)))
def c113_0_5 : Pk G ((Int × Int) × Int × Int) := (pk (Sh.snd (Sh.cons (Sh.ptr 0 0) (Sh.cons (Sh.int .u64) (Sh.fst (Sh.cons (Sh.int .u64) Sh.nil))))) (Sh.fst (Sh.hfix 0 124 (Sh.cons (Sh.int .u64) (Sh.fst (Sh.cons (Sh.int .u64) Sh.nil))) Sh.hnil)))
def B113_0_5 (K : (((Int × Int) × Int × Int) → Option Int)) (v : (Int × Int) × Int × Int) : Option Int :=
  bif (decide (v.1.1 < v.1.2)) then
    let x416 : Int := (IntKind.wrap .u64 (v.1.2 - v.1.1))
    let x417 : Int := (IntKind.wrap .u64 (x416 + (1 : Int)))
    let x418 : Int := (IntKind.wrap .u64 (Int.tdiv x417 (2 : Int)))
    let x419 : Int := (IntKind.wrap .u64 (v.1.1 + x418))
    (F98_0 (x419, x419)).bind fun r420 =>
    (F64_0 (v.2, r420)).bind fun r421 =>
    bif r421 then
      let x422 : Int := (IntKind.wrap .u64 (x419 - (1 : Int)))
      K ((v.1.1, x422), v.2)
    else
      K ((x419, v.1.2), v.2)
  else
    some (v.1.1)

def E113_0 (K : (((Int × Int) × Int × Int) → Option Int)) (v : Int × Int) : Option Int :=
  bif (decide (v.1 < (0 : Int))) then
    some (0 : Int)
  else
    let x414 : Bool := ((v.1 == (0 : Int)) && ((v.2 == (0 : Int)) && true))
    bif x414 then
      some (0 : Int)
    else
      let x415 : Int := (IntKind.wrap .u64 v.1)
      K (((1 : Int), (13835058055282163712 : Int)), (x415, v.2))

def K113_0 : Nat → (((Int × Int) × Int × Int) → Option Int)
  | 0 => (fun _ => none)
  | n + 1 => (B113_0_5 (K113_0 n))
def fuel113_0 (v : Int × Int) : Nat := 1000
def F113_0 (v : Int × Int) : Option Int := E113_0 (K113_0 (fuel113_0 v)) v
noncomputable def k113_0 : List (Known Try.prog E) := [Known.of envOk [1, 1] [.keep, .keep] v98_0 F98_0 w98_0 ok98_0, Known.of envOk [9, 9] [(.agg [.keep, .keep]), (.agg [.keep, .keep])] v64_0 F64_0 w64_0 ok64_0]
def s113_0_5 : List (Nat × Pat) := [(3, (.ptr 0 0 124 [.keep, .keep])), (4, .keep), (5, .keep)]
noncomputable def L113_0 (n id : Nat) (st : St G) : Option Int := match Nat.beq id 5 with | true => cutK Try.prog s113_0_5 [] c113_0_5.dec (K113_0 n) st | false => none
set_option maxRecDepth 100000 in
theorem e113_0 (n : Nat) (v : Int × Int) : ev Try.prog E (oracle k113_0) Try.f113.ntmps (fun x => mem x [5]) (L113_0 n) (finA Try.prog E Try.f113.results.toList [] w113_0.alts) 4000 [.code (Try.f113.body.getD .skip)] (argSt (v113_0.enc v)) = E113_0 (K113_0 n) v := by kernel_rfl
set_option maxRecDepth 100000 in
theorem b113_0_5 (n : Nat) (v : (Int × Int) × Int × Int) : evCut Try.prog E (oracle k113_0) Try.f113.ntmps (fun x => mem x [5]) (L113_0 n) (finA Try.prog E Try.f113.results.toList [] w113_0.alts) 4000 (todoAt (Try.f113.body.getD .skip) 5) (cutSt s113_0_5 (c113_0_5.enc v)) = B113_0_5 (K113_0 n) v := by kernel_rfl
theorem ok113_0 : FnOk Try.prog E 113 v113_0.enc F113_0 w113_0.enc :=
  fn_known (fn := Try.f113) (c := (Try.f113.body.getD .skip)) Try.func113 (by kernel_rfl) rfl envOk (oracle_ok k113_0) mixed v113_0 F113_0 w113_0 [] [5] 4000 L113_0 (by kernel_rfl)
    (List.forall_mem_cons.2 ⟨⟨_, s113_0_5, c113_0_5.dec, c113_0_5.enc, fun n => (K113_0 n), c113_0_5.ok, fun _ _ => rfl, fun _ => rfl, fun n v _ h => (b113_0_5 n v).trans h⟩, fun _ h => (nomatch h)⟩) (fun v _ h => ⟨fuel113_0 v, (e113_0 _ v).trans h⟩) (fun _ => by kernel_rfl) (fun _ => by kernel_rfl) (fun _ _ => by kernel_rfl)
/- chicane/root.length -/
abbrev A97_0 : Type := List Int × Bool
abbrev R97_0 : Type := Int × Bool
def v97_0 : Pk G (List Int × Bool) := (pk (Sh.snd (Sh.cons (Sh.ptr 0 0) (Sh.fst (Sh.cons (Sh.ros 23) Sh.nil)))) (Sh.fst (Sh.hfix 0 52 (Sh.fst (Sh.cons Sh.bool Sh.nil)) Sh.hnil)))
def w97_0 : Wk G (Int × Bool) := (Wk.one [.keep] (pk (Sh.fst (Sh.cons (Sh.int .i64) Sh.nil)) (Sh.fst (Sh.hfix 0 52 (Sh.fst (Sh.cons Sh.bool Sh.nil)) Sh.hnil))))
def c97_0_4 : Pk G ((Bool × List Int × Int × Int) × (Int × Int) × Bool) := (pk (Sh.snd (Sh.cons (Sh.ptr 0 0) (Sh.snd (Sh.cons (Sh.ptr 1 0) (Sh.cons Sh.bool (Sh.cons (Sh.ros 23) (Sh.cons (Sh.int .i64) (Sh.fst (Sh.cons (Sh.int .i64) Sh.nil))))))))) (Sh.hfix 1 88 (Sh.cons (Sh.int .i64) (Sh.fst (Sh.cons (Sh.int .u64) Sh.nil))) (Sh.fst (Sh.hfix 0 52 (Sh.fst (Sh.cons Sh.bool Sh.nil)) Sh.hnil))))
def B97_0_4 (K : (((Bool × List Int × Int × Int) × (Int × Int) × Bool) → Option (Int × Bool))) (v : (Bool × List Int × Int × Int) × (Int × Int) × Bool) : Option (Int × Bool) :=
  bif (decide (v.1.2.2.2 < v.1.2.2.1)) then
    (rdx v.1.2.1 v.1.2.2.2).bind fun (x437 : Int) =>
    (F71_0 (x437, x437)).bind fun r438 =>
    (F68_0 (v.2.1, r438)).bind fun r439 =>
    bif (!r439.2) then
      (F113_0 r439.1).bind fun r440 =>
      bif (!r439.2) then
        some ((9223372036854775807 : Int), true)
      else
        bif (decide (r440 > (9223372036854775807 : Int))) then
          some ((9223372036854775807 : Int), true)
        else
          let x441 : Int := (IntKind.wrap .i64 r440)
          some (x441, v.2.2)
    else
      let x442 : Int := (IntKind.wrap .i64 (v.1.2.2.2 + (1 : Int)))
      K ((r439.2, (v.1.2.1, (v.1.2.2.1, x442))), (r439.1, v.2.2))
  else
    (F113_0 v.2.1).bind fun r443 =>
    bif (!v.1.1) then
      some ((9223372036854775807 : Int), true)
    else
      bif (decide (r443 > (9223372036854775807 : Int))) then
        some ((9223372036854775807 : Int), true)
      else
        let x444 : Int := (IntKind.wrap .i64 r443)
        some (x444, v.2.2)

def E97_0 (K : (((Bool × List Int × Int × Int) × (Int × Int) × Bool) → Option (Int × Bool))) (v : List Int × Bool) : Option (Int × Bool) :=
  K ((true, (v.1, (((v.1).length : Int), (0 : Int)))), (((0 : Int), (0 : Int)), v.2))

def K97_0 : Nat → (((Bool × List Int × Int × Int) × (Int × Int) × Bool) → Option (Int × Bool))
  | 0 => (fun _ => none)
  | n + 1 => (B97_0_4 (K97_0 n))
def fuel97_0 (v : List Int × Bool) : Nat := 1000
def F97_0 (v : List Int × Bool) : Option (Int × Bool) := E97_0 (K97_0 (fuel97_0 v)) v
noncomputable def k97_0 : List (Known Try.prog E) := [Known.of envOk [1, 1] [.keep, .keep] v71_0 F71_0 w71_0 ok71_0, Known.of envOk [9, 9] [(.agg [.keep, .keep]), (.agg [.keep, .keep])] v68_0 F68_0 w68_0 ok68_0, Known.of envOk [9] [(.agg [.keep, .keep])] v113_0 F113_0 w113_0 ok113_0]
def s97_0_4 : List (Nat × Pat) := [(0, (.ptr 0 0 52 [])), (5, (.ptr 1 0 88 [.keep, .keep])), (6, .keep), (10, (.ros 23)), (11, .keep), (12, .keep)]
noncomputable def L97_0 (n id : Nat) (st : St G) : Option (Int × Bool) := match Nat.beq id 4 with | true => cutK Try.prog s97_0_4 [(.ptr 0 0 52 [.keep])] c97_0_4.dec (K97_0 n) st | false => none
set_option maxRecDepth 100000 in
theorem e97_0 (n : Nat) (v : List Int × Bool) : ev Try.prog E (oracle k97_0) Try.f97.ntmps (fun x => mem x [4]) (L97_0 n) (finA Try.prog E Try.f97.results.toList [(.ptr 0 0 52 [.keep])] w97_0.alts) 4000 [.code (Try.f97.body.getD .skip)] (argSt (v97_0.enc v)) = E97_0 (K97_0 n) v := by kernel_rfl
set_option maxRecDepth 100000 in
theorem b97_0_4 (n : Nat) (v : (Bool × List Int × Int × Int) × (Int × Int) × Bool) : evCut Try.prog E (oracle k97_0) Try.f97.ntmps (fun x => mem x [4]) (L97_0 n) (finA Try.prog E Try.f97.results.toList [(.ptr 0 0 52 [.keep])] w97_0.alts) 4000 (todoAt (Try.f97.body.getD .skip) 4) (cutSt s97_0_4 (c97_0_4.enc v)) = B97_0_4 (K97_0 n) v := by kernel_rfl
theorem ok97_0 : FnOk Try.prog E 97 v97_0.enc F97_0 w97_0.enc :=
  fn_known (fn := Try.f97) (c := (Try.f97.body.getD .skip)) Try.func97 (by kernel_rfl) rfl envOk (oracle_ok k97_0) mixed v97_0 F97_0 w97_0 [(.ptr 0 0 52 [.keep])] [4] 4000 L97_0 (by kernel_rfl)
    (List.forall_mem_cons.2 ⟨⟨_, s97_0_4, c97_0_4.dec, c97_0_4.enc, fun n => (K97_0 n), c97_0_4.ok, fun _ _ => rfl, fun _ => rfl, fun n v _ h => (b97_0_4 n v).trans h⟩, fun _ h => (nomatch h)⟩) (fun v _ h => ⟨fuel97_0 v, (e97_0 _ v).trans h⟩) (fun _ => by kernel_rfl) (fun _ => by kernel_rfl) (fun _ _ => by kernel_rfl)
/- chicane/root.Len3 -/
abbrev A69_0 : Type := (Int × Int × Int) × Bool
abbrev R69_0 : Type := Int × Bool
def v69_0 : Pk G ((Int × Int × Int) × Bool) := (pk (Sh.snd (Sh.cons (Sh.ptr 0 0) (Sh.cons (Sh.int .i64) (Sh.cons (Sh.int .i64) (Sh.fst (Sh.cons (Sh.int .i64) Sh.nil)))))) (Sh.fst (Sh.hfix 0 52 (Sh.fst (Sh.cons Sh.bool Sh.nil)) Sh.hnil)))
def w69_0 : Wk G (Int × Bool) := (Wk.one [.keep] (pk (Sh.fst (Sh.cons (Sh.int .i64) Sh.nil)) (Sh.fst (Sh.hfix 0 52 (Sh.fst (Sh.cons Sh.bool Sh.nil)) Sh.hnil))))
def F69_0 (v : (Int × Int × Int) × Bool) : Option (Int × Bool) :=
  (F97_0 (([v.1.1, v.1.2.1, v.1.2.2] : List Int), v.2)).bind fun r447 =>
  some (r447)

noncomputable def k69_0 : List (Known Try.prog E) := [Known.of envOk [5, 7] [(.ptr 0 0 52 [.keep]), (.ros 23)] v97_0 F97_0 w97_0 ok97_0]
noncomputable def L69_0 (n id : Nat) (st : St G) : Option (Int × Bool) := none
set_option maxRecDepth 100000 in
theorem e69_0 (n : Nat) (v : (Int × Int × Int) × Bool) : ev Try.prog E (oracle k69_0) Try.f69.ntmps (fun x => mem x []) (L69_0 n) (finA Try.prog E Try.f69.results.toList [(.ptr 0 0 52 [.keep])] w69_0.alts) 4000 [.code (Try.f69.body.getD .skip)] (argSt (v69_0.enc v)) = F69_0 v := by kernel_rfl
theorem ok69_0 : FnOk Try.prog E 69 v69_0.enc F69_0 w69_0.enc :=
  fn_known (fn := Try.f69) (c := (Try.f69.body.getD .skip)) Try.func69 (by kernel_rfl) rfl envOk (oracle_ok k69_0) mixed v69_0 F69_0 w69_0 [(.ptr 0 0 52 [.keep])] [] 4000 L69_0 (by kernel_rfl)
    (fun _ h => nomatch h) (fun v _ h => ⟨0, (e69_0 _ v).trans h⟩) (fun _ => by kernel_rfl) (fun _ => by kernel_rfl) (fun _ _ => by kernel_rfl)
/- chicane/vec.Len -/
abbrev A31_0 : Type := (Int × Int × Int) × Bool
abbrev R31_0 : Type := Int × Bool
def v31_0 : Pk G ((Int × Int × Int) × Bool) := (pk (Sh.snd (Sh.cons (Sh.ptr 0 0) (Sh.fst (Sh.cons (Sh.agg (Sh.cons (Sh.int .i64) (Sh.cons (Sh.int .i64) (Sh.fst (Sh.cons (Sh.int .i64) Sh.nil))))) Sh.nil)))) (Sh.fst (Sh.hfix 0 52 (Sh.fst (Sh.cons Sh.bool Sh.nil)) Sh.hnil)))
def w31_0 : Wk G (Int × Bool) := (Wk.one [.keep] (pk (Sh.fst (Sh.cons (Sh.int .i64) Sh.nil)) (Sh.fst (Sh.hfix 0 52 (Sh.fst (Sh.cons Sh.bool Sh.nil)) Sh.hnil))))
def F31_0 (v : (Int × Int × Int) × Bool) : Option (Int × Bool) :=
  (F69_0 v).bind fun r450 =>
  some (r450)

noncomputable def k31_0 : List (Known Try.prog E) := [Known.of envOk [5, 1, 1, 1] [(.ptr 0 0 52 [.keep]), .keep, .keep, .keep] v69_0 F69_0 w69_0 ok69_0]
noncomputable def L31_0 (n id : Nat) (st : St G) : Option (Int × Bool) := none
set_option maxRecDepth 100000 in
theorem e31_0 (n : Nat) (v : (Int × Int × Int) × Bool) : ev Try.prog E (oracle k31_0) Try.f31.ntmps (fun x => mem x []) (L31_0 n) (finA Try.prog E Try.f31.results.toList [(.ptr 0 0 52 [.keep])] w31_0.alts) 4000 [.code (Try.f31.body.getD .skip)] (argSt (v31_0.enc v)) = F31_0 v := by kernel_rfl
theorem ok31_0 : FnOk Try.prog E 31 v31_0.enc F31_0 w31_0.enc :=
  fn_known (fn := Try.f31) (c := (Try.f31.body.getD .skip)) Try.func31 (by kernel_rfl) rfl envOk (oracle_ok k31_0) mixed v31_0 F31_0 w31_0 [(.ptr 0 0 52 [.keep])] [] 4000 L31_0 (by kernel_rfl)
    (fun _ h => nomatch h) (fun v _ h => ⟨0, (e31_0 _ v).trans h⟩) (fun _ => by kernel_rfl) (fun _ => by kernel_rfl) (fun _ _ => by kernel_rfl)
/- (*chicane/fx.M).bound -/
abbrev A72_0 : Type := Bool × Bool
abbrev R72_0 : Type := Int × Bool
def v72_0 : Pk G (Bool × Bool) := (pk (Sh.snd (Sh.cons (Sh.ptr 0 0) (Sh.fst (Sh.cons Sh.bool Sh.nil)))) (Sh.fst (Sh.hfix 0 52 (Sh.fst (Sh.cons Sh.bool Sh.nil)) Sh.hnil)))
def w72_0 : Wk G (Int × Bool) := (Wk.one [.keep] (pk (Sh.fst (Sh.cons (Sh.int .i64) Sh.nil)) (Sh.fst (Sh.hfix 0 52 (Sh.fst (Sh.cons Sh.bool Sh.nil)) Sh.hnil))))
def F72_0 (v : Bool × Bool) : Option (Int × Bool) :=
  bif v.1 then
    some ((-9223372036854775808 : Int), true)
  else
    some ((9223372036854775807 : Int), true)

noncomputable def k72_0 : List (Known Try.prog E) := []
noncomputable def L72_0 (n id : Nat) (st : St G) : Option (Int × Bool) := none
set_option maxRecDepth 100000 in
theorem e72_0 (n : Nat) (v : Bool × Bool) : ev Try.prog E (oracle k72_0) Try.f72.ntmps (fun x => mem x []) (L72_0 n) (finA Try.prog E Try.f72.results.toList [(.ptr 0 0 52 [.keep])] w72_0.alts) 4000 [.code (Try.f72.body.getD .skip)] (argSt (v72_0.enc v)) = F72_0 v := by kernel_rfl
theorem ok72_0 : FnOk Try.prog E 72 v72_0.enc F72_0 w72_0.enc :=
  fn_known (fn := Try.f72) (c := (Try.f72.body.getD .skip)) Try.func72 (by kernel_rfl) rfl envOk (oracle_ok k72_0) mixed v72_0 F72_0 w72_0 [(.ptr 0 0 52 [.keep])] [] 4000 L72_0 (by kernel_rfl)
    (fun _ h => nomatch h) (fun v _ h => ⟨0, (e72_0 _ v).trans h⟩) (fun _ => by kernel_rfl) (fun _ => by kernel_rfl) (fun _ _ => by kernel_rfl)
/- chicane/fx.fit -/
abbrev A70_0 : Type := (Int × Int) × Bool
abbrev R70_0 : Type := Int × Bool
def v70_0 : Pk G ((Int × Int) × Bool) := (pk (Sh.fst (Sh.cons (Sh.agg (Sh.cons (Sh.int .i64) (Sh.fst (Sh.cons (Sh.int .u64) Sh.nil)))) (Sh.snd (Sh.cons (Sh.snd (Sh.fn (.func 72) (Sh.snd (Sh.cons (Sh.ptr 0 0) Sh.nil)) Sh.nil)) Sh.nil)))) (Sh.fst (Sh.hfix 0 52 (Sh.fst (Sh.cons Sh.bool Sh.nil)) Sh.hnil)))
def w70_0 : Wk G (Int × Bool) := (Wk.one [.keep] (pk (Sh.fst (Sh.cons (Sh.int .i64) Sh.nil)) (Sh.fst (Sh.hfix 0 52 (Sh.fst (Sh.cons Sh.bool Sh.nil)) Sh.hnil))))
def F70_0 (v : (Int × Int) × Bool) : Option (Int × Bool) :=
  let x461 : Int := (IntKind.wrap .i64 v.1.2)
  let x462 : Int := (Int.fdiv x461 (2 ^ 63))
  bif (v.1.1 != x462) then
    (F72_0 ((decide (v.1.1 < (0 : Int))), v.2)).bind fun r463 =>
    some (r463)
  else
    let x464 : Int := (IntKind.wrap .i64 v.1.2)
    some (x464, v.2)

noncomputable def k70_0 : List (Known Try.prog E) := [Known.of envOk [5, 2] [(.ptr 0 0 52 [.keep]), .keep] v72_0 F72_0 w72_0 ok72_0]
noncomputable def L70_0 (n id : Nat) (st : St G) : Option (Int × Bool) := none
set_option maxRecDepth 100000 in
theorem e70_0 (n : Nat) (v : (Int × Int) × Bool) : ev Try.prog E (oracle k70_0) Try.f70.ntmps (fun x => mem x []) (L70_0 n) (finA Try.prog E Try.f70.results.toList [(.ptr 0 0 52 [.keep])] w70_0.alts) 4000 [.code (Try.f70.body.getD .skip)] (argSt (v70_0.enc v)) = F70_0 v := by kernel_rfl
theorem ok70_0 : FnOk Try.prog E 70 v70_0.enc F70_0 w70_0.enc :=
  fn_known (fn := Try.f70) (c := (Try.f70.body.getD .skip)) Try.func70 (by kernel_rfl) rfl envOk (oracle_ok k70_0) mixed v70_0 F70_0 w70_0 [(.ptr 0 0 52 [.keep])] [] 4000 L70_0 (by kernel_rfl)
    (fun _ h => nomatch h) (fun v _ h => ⟨0, (e70_0 _ v).trans h⟩) (fun _ => by kernel_rfl) (fun _ => by kernel_rfl) (fun _ _ => by kernel_rfl)
/- (*chicane/fx.M).Of -/
abbrev A32_0 : Type := Int × Bool
abbrev R32_0 : Type := Int × Bool
def v32_0 : Pk G (Int × Bool) := (pk (Sh.snd (Sh.cons (Sh.ptr 0 0) (Sh.fst (Sh.cons (Sh.int .i64) Sh.nil)))) (Sh.fst (Sh.hfix 0 52 (Sh.fst (Sh.cons Sh.bool Sh.nil)) Sh.hnil)))
def w32_0 : Wk G (Int × Bool) := (Wk.one [.keep] (pk (Sh.fst (Sh.cons (Sh.int .i64) Sh.nil)) (Sh.fst (Sh.hfix 0 52 (Sh.fst (Sh.cons Sh.bool Sh.nil)) Sh.hnil))))
def F32_0 (v : Int × Bool) : Option (Int × Bool) :=
  (F71_0 (v.1, (4294967296 : Int))).bind fun r468 =>
  (F70_0 (r468, v.2)).bind fun r469 =>
  some (r469)

noncomputable def k32_0 : List (Known Try.prog E) := [Known.of envOk [1, 1] [.keep, .keep] v71_0 F71_0 w71_0 ok71_0, Known.of envOk [9, 172] [(.agg [.keep, .keep]), (.fn (.func 72) [(.ptr 0 0 52 [.keep])] [])] v70_0 F70_0 w70_0 ok70_0]
noncomputable def L32_0 (n id : Nat) (st : St G) : Option (Int × Bool) := none
set_option maxRecDepth 100000 in
theorem e32_0 (n : Nat) (v : Int × Bool) : ev Try.prog E (oracle k32_0) Try.f32.ntmps (fun x => mem x []) (L32_0 n) (finA Try.prog E Try.f32.results.toList [(.ptr 0 0 52 [.keep])] w32_0.alts) 4000 [.code (Try.f32.body.getD .skip)] (argSt (v32_0.enc v)) = F32_0 v := by kernel_rfl
theorem ok32_0 : FnOk Try.prog E 32 v32_0.enc F32_0 w32_0.enc :=
  fn_known (fn := Try.f32) (c := (Try.f32.body.getD .skip)) Try.func32 (by kernel_rfl) rfl envOk (oracle_ok k32_0) mixed v32_0 F32_0 w32_0 [(.ptr 0 0 52 [.keep])] [] 4000 L32_0 (by kernel_rfl)
    (fun _ h => nomatch h) (fun v _ h => ⟨0, (e32_0 _ v).trans h⟩) (fun _ => by kernel_rfl) (fun _ => by kernel_rfl) (fun _ _ => by kernel_rfl)
/- chicane/telemetry.Of -/
abbrev A15_0 : Type := (Int × Int × Int × Int × Int × Int × Int × Int × Int × Int × Int × Int × Int × Int × Int × Bool × Int × Int × Bool × Int × Int × Bool × Int × Int × Bool × Int × Bool × Int × Int × Int × Int × Int × Bool × Bool × Int × Int × Int × Int × Int × Bool × Bool) × Bool
abbrev R15_0 : Type := (Int × Int × Int × Int × Int × Int × Int × Int) × Bool
def v15_0 : Pk G ((Int × Int × Int × Int × Int × Int × Int × Int × Int × Int × Int × Int × Int × Int × Int × Bool × Int × Int × Bool × Int × Int × Bool × Int × Int × Bool × Int × Bool × Int × Int × Int × Int × Int × Bool × Bool × Int × Int × Int × Int × Int × Bool × Bool) × Bool) := (pk (Sh.snd (Sh.cons (Sh.ptr 0 0) (Sh.fst (Sh.cons (Sh.agg (Sh.cons (Sh.int .i64) (Sh.cons (Sh.int .i64) (Sh.cons (Sh.int .i64) (Sh.cons (Sh.int .i64) (Sh.cons (Sh.int .i64) (Sh.cons (Sh.int .i64) (Sh.cons (Sh.int .i64) (Sh.cons (Sh.int .i64) (Sh.cons (Sh.int .i64) (Sh.cons (Sh.int .i64) (Sh.cons (Sh.int .i64) (Sh.cons (Sh.int .i64) (Sh.cons (Sh.int .i64) (Sh.cons (Sh.int .i64) (Sh.cons (Sh.int .i64) (Sh.cons Sh.bool (Sh.cons (Sh.int .i64) (Sh.cons (Sh.int .i64) (Sh.cons Sh.bool (Sh.cons (Sh.int .i64) (Sh.cons (Sh.int .i64) (Sh.cons Sh.bool (Sh.cons (Sh.int .i64) (Sh.cons (Sh.int .i64) (Sh.cons Sh.bool (Sh.cons (Sh.int .i64) (Sh.cons Sh.bool (Sh.cons (Sh.int .i64) (Sh.cons (Sh.int .i64) (Sh.cons (Sh.int .u32) (Sh.cons (Sh.int .i64) (Sh.cons (Sh.int .i64) (Sh.cons Sh.bool (Sh.cons Sh.bool (Sh.cons (Sh.int .i64) (Sh.cons (Sh.int .i64) (Sh.cons (Sh.int .i64) (Sh.cons (Sh.int .i64) (Sh.cons (Sh.int .i64) (Sh.cons Sh.bool (Sh.fst (Sh.cons Sh.bool Sh.nil))))))))))))))))))))))))))))))))))))))))))) Sh.nil)))) (Sh.fst (Sh.hfix 0 52 (Sh.fst (Sh.cons Sh.bool Sh.nil)) Sh.hnil)))
def w15_0 : Wk G ((Int × Int × Int × Int × Int × Int × Int × Int) × Bool) := (Wk.one [(.agg [.keep, .keep, .keep, .keep, .keep, .keep, .keep, .keep])] (pk (Sh.fst (Sh.cons (Sh.agg (Sh.cons (Sh.int .i64) (Sh.cons (Sh.int .i64) (Sh.cons (Sh.int .i64) (Sh.cons (Sh.int .i64) (Sh.cons (Sh.int .i64) (Sh.cons (Sh.int .i64) (Sh.cons (Sh.int .i64) (Sh.fst (Sh.cons (Sh.int .i64) Sh.nil)))))))))) Sh.nil)) (Sh.fst (Sh.hfix 0 52 (Sh.fst (Sh.cons Sh.bool Sh.nil)) Sh.hnil))))
def F15_0 (v : (Int × Int × Int × Int × Int × Int × Int × Int × Int × Int × Int × Int × Int × Int × Int × Bool × Int × Int × Bool × Int × Int × Bool × Int × Int × Bool × Int × Bool × Int × Int × Int × Int × Int × Bool × Bool × Int × Int × Int × Int × Int × Bool × Bool) × Bool) : Option ((Int × Int × Int × Int × Int × Int × Int × Int) × Bool) :=
  let x687 : Int := (if v.1.2.2.2.2.2.2.2.2.2.2.2.2.2.2.1 > v.1.2.2.2.2.2.2.2.2.2.2.2.2.2.2.1 then v.1.2.2.2.2.2.2.2.2.2.2.2.2.2.2.1 else v.1.2.2.2.2.2.2.2.2.2.2.2.2.2.2.1)
  bif v.1.2.2.2.2.2.2.2.2.2.2.2.2.2.2.2.1 then
    let x688 : Int := (if v.1.2.2.2.2.2.2.2.2.2.2.2.2.2.2.2.2.2.1 > x687 then v.1.2.2.2.2.2.2.2.2.2.2.2.2.2.2.2.2.2.1 else x687)
    bif v.1.2.2.2.2.2.2.2.2.2.2.2.2.2.2.2.2.2.2.1 then
      let x689 : Int := (if v.1.2.2.2.2.2.2.2.2.2.2.2.2.2.2.2.2.2.2.2.2.1 > x688 then v.1.2.2.2.2.2.2.2.2.2.2.2.2.2.2.2.2.2.2.2.2.1 else x688)
      bif v.1.2.2.2.2.2.2.2.2.2.2.2.2.2.2.2.2.2.2.2.2.2.1 then
        let x690 : Int := (if v.1.2.2.2.2.2.2.2.2.2.2.2.2.2.2.2.2.2.2.2.2.2.2.2.1 > x689 then v.1.2.2.2.2.2.2.2.2.2.2.2.2.2.2.2.2.2.2.2.2.2.2.2.1 else x689)
        bif v.1.2.2.2.2.2.2.2.2.2.2.2.2.2.2.2.2.2.2.2.2.2.2.2.2.1 then
          (F31_0 ((v.1.2.2.2.1, (v.1.2.2.2.2.1, v.1.2.2.2.2.2.1)), v.2)).bind fun r691 =>
          (F32_0 (v.1.2.2.2.2.2.2.2.2.2.2.2.2.2.2.2.2.2.2.2.2.2.2.2.2.2.2.2.1, r691.2)).bind fun r692 =>
          let x693 : Int := (IntKind.wrap .i32 v.1.2.2.2.2.2.2.2.2.2.2.2.2.2.2.2.2.2.2.2.2.2.2.2.2.2.2.2.2.2.1)
          let x694 : Int := (IntKind.wrap .i64 x693)
          (F31_0 ((v.1.2.2.2.2.2.2.2.2.2.2.1, (v.1.2.2.2.2.2.2.2.2.2.2.2.1, v.1.2.2.2.2.2.2.2.2.2.2.2.2.1)), r692.2)).bind fun r695 =>
          (F32_0 ((4 : Int), r695.2)).bind fun r696 =>
          some ((r691.1, (v.1.2.2.1, (v.1.2.2.2.2.2.2.2.2.2.2.2.2.2.2.2.2.2.2.2.2.2.2.2.2.2.1, (r692.1, (x694, (x690, (r695.1, r696.1))))))), r696.2)
        else
          (F31_0 ((v.1.2.2.2.1, (v.1.2.2.2.2.1, v.1.2.2.2.2.2.1)), v.2)).bind fun r697 =>
          (F32_0 (v.1.2.2.2.2.2.2.2.2.2.2.2.2.2.2.2.2.2.2.2.2.2.2.2.2.2.2.2.1, r697.2)).bind fun r698 =>
          let x699 : Int := (IntKind.wrap .i32 v.1.2.2.2.2.2.2.2.2.2.2.2.2.2.2.2.2.2.2.2.2.2.2.2.2.2.2.2.2.2.1)
          let x700 : Int := (IntKind.wrap .i64 x699)
          (F31_0 ((v.1.2.2.2.2.2.2.2.2.2.2.1, (v.1.2.2.2.2.2.2.2.2.2.2.2.1, v.1.2.2.2.2.2.2.2.2.2.2.2.2.1)), r698.2)).bind fun r701 =>
          (F32_0 ((3 : Int), r701.2)).bind fun r702 =>
          some ((r697.1, (v.1.2.2.1, (v.1.2.2.2.2.2.2.2.2.2.2.2.2.2.2.2.2.2.2.2.2.2.2.2.2.2.1, (r698.1, (x700, (x690, (r701.1, r702.1))))))), r702.2)
      else
        let x703 : Int := (if v.1.2.2.2.2.2.2.2.2.2.2.2.2.2.2.2.2.2.2.2.2.2.2.2.1 > x689 then v.1.2.2.2.2.2.2.2.2.2.2.2.2.2.2.2.2.2.2.2.2.2.2.2.1 else x689)
        bif v.1.2.2.2.2.2.2.2.2.2.2.2.2.2.2.2.2.2.2.2.2.2.2.2.2.1 then
          (F31_0 ((v.1.2.2.2.1, (v.1.2.2.2.2.1, v.1.2.2.2.2.2.1)), v.2)).bind fun r704 =>
          (F32_0 (v.1.2.2.2.2.2.2.2.2.2.2.2.2.2.2.2.2.2.2.2.2.2.2.2.2.2.2.2.1, r704.2)).bind fun r705 =>
          let x706 : Int := (IntKind.wrap .i32 v.1.2.2.2.2.2.2.2.2.2.2.2.2.2.2.2.2.2.2.2.2.2.2.2.2.2.2.2.2.2.1)
          let x707 : Int := (IntKind.wrap .i64 x706)
          (F31_0 ((v.1.2.2.2.2.2.2.2.2.2.2.1, (v.1.2.2.2.2.2.2.2.2.2.2.2.1, v.1.2.2.2.2.2.2.2.2.2.2.2.2.1)), r705.2)).bind fun r708 =>
          (F32_0 ((3 : Int), r708.2)).bind fun r709 =>
          some ((r704.1, (v.1.2.2.1, (v.1.2.2.2.2.2.2.2.2.2.2.2.2.2.2.2.2.2.2.2.2.2.2.2.2.2.1, (r705.1, (x707, (x703, (r708.1, r709.1))))))), r709.2)
        else
          (F31_0 ((v.1.2.2.2.1, (v.1.2.2.2.2.1, v.1.2.2.2.2.2.1)), v.2)).bind fun r710 =>
          (F32_0 (v.1.2.2.2.2.2.2.2.2.2.2.2.2.2.2.2.2.2.2.2.2.2.2.2.2.2.2.2.1, r710.2)).bind fun r711 =>
          let x712 : Int := (IntKind.wrap .i32 v.1.2.2.2.2.2.2.2.2.2.2.2.2.2.2.2.2.2.2.2.2.2.2.2.2.2.2.2.2.2.1)
          let x713 : Int := (IntKind.wrap .i64 x712)
          (F31_0 ((v.1.2.2.2.2.2.2.2.2.2.2.1, (v.1.2.2.2.2.2.2.2.2.2.2.2.1, v.1.2.2.2.2.2.2.2.2.2.2.2.2.1)), r711.2)).bind fun r714 =>
          (F32_0 ((2 : Int), r714.2)).bind fun r715 =>
          some ((r710.1, (v.1.2.2.1, (v.1.2.2.2.2.2.2.2.2.2.2.2.2.2.2.2.2.2.2.2.2.2.2.2.2.2.1, (r711.1, (x713, (x703, (r714.1, r715.1))))))), r715.2)
    else
      let x716 : Int := (if v.1.2.2.2.2.2.2.2.2.2.2.2.2.2.2.2.2.2.2.2.2.1 > x688 then v.1.2.2.2.2.2.2.2.2.2.2.2.2.2.2.2.2.2.2.2.2.1 else x688)
      bif v.1.2.2.2.2.2.2.2.2.2.2.2.2.2.2.2.2.2.2.2.2.2.1 then
        let x717 : Int := (if v.1.2.2.2.2.2.2.2.2.2.2.2.2.2.2.2.2.2.2.2.2.2.2.2.1 > x716 then v.1.2.2.2.2.2.2.2.2.2.2.2.2.2.2.2.2.2.2.2.2.2.2.2.1 else x716)
        bif v.1.2.2.2.2.2.2.2.2.2.2.2.2.2.2.2.2.2.2.2.2.2.2.2.2.1 then
          (F31_0 ((v.1.2.2.2.1, (v.1.2.2.2.2.1, v.1.2.2.2.2.2.1)), v.2)).bind fun r718 =>
          (F32_0 (v.1.2.2.2.2.2.2.2.2.2.2.2.2.2.2.2.2.2.2.2.2.2.2.2.2.2.2.2.1, r718.2)).bind fun r719 =>
          let x720 : Int := (IntKind.wrap .i32 v.1.2.2.2.2.2.2.2.2.2.2.2.2.2.2.2.2.2.2.2.2.2.2.2.2.2.2.2.2.2.1)
          let x721 : Int := (IntKind.wrap .i64 x720)
          (F31_0 ((v.1.2.2.2.2.2.2.2.2.2.2.1, (v.1.2.2.2.2.2.2.2.2.2.2.2.1, v.1.2.2.2.2.2.2.2.2.2.2.2.2.1)), r719.2)).bind fun r722 =>
          (F32_0 ((3 : Int), r722.2)).bind fun r723 =>
          some ((r718.1, (v.1.2.2.1, (v.1.2.2.2.2.2.2.2.2.2.2.2.2.2.2.2.2.2.2.2.2.2.2.2.2.2.1, (r719.1, (x721, (x717, (r722.1, r723.1))))))), r723.2)
        else
          (F31_0 ((v.1.2.2.2.1, (v.1.2.2.2.2.1, v.1.2.2.2.2.2.1)), v.2)).bind fun r724 =>
          (F32_0 (v.1.2.2.2.2.2.2.2.2.2.2.2.2.2.2.2.2.2.2.2.2.2.2.2.2.2.2.2.1, r724.2)).bind fun r725 =>
          let x726 : Int := (IntKind.wrap .i32 v.1.2.2.2.2.2.2.2.2.2.2.2.2.2.2.2.2.2.2.2.2.2.2.2.2.2.2.2.2.2.1)
          let x727 : Int := (IntKind.wrap .i64 x726)
          (F31_0 ((v.1.2.2.2.2.2.2.2.2.2.2.1, (v.1.2.2.2.2.2.2.2.2.2.2.2.1, v.1.2.2.2.2.2.2.2.2.2.2.2.2.1)), r725.2)).bind fun r728 =>
          (F32_0 ((2 : Int), r728.2)).bind fun r729 =>
          some ((r724.1, (v.1.2.2.1, (v.1.2.2.2.2.2.2.2.2.2.2.2.2.2.2.2.2.2.2.2.2.2.2.2.2.2.1, (r725.1, (x727, (x717, (r728.1, r729.1))))))), r729.2)
      else
        let x730 : Int := (if v.1.2.2.2.2.2.2.2.2.2.2.2.2.2.2.2.2.2.2.2.2.2.2.2.1 > x716 then v.1.2.2.2.2.2.2.2.2.2.2.2.2.2.2.2.2.2.2.2.2.2.2.2.1 else x716)
        bif v.1.2.2.2.2.2.2.2.2.2.2.2.2.2.2.2.2.2.2.2.2.2.2.2.2.1 then
          (F31_0 ((v.1.2.2.2.1, (v.1.2.2.2.2.1, v.1.2.2.2.2.2.1)), v.2)).bind fun r731 =>
          (F32_0 (v.1.2.2.2.2.2.2.2.2.2.2.2.2.2.2.2.2.2.2.2.2.2.2.2.2.2.2.2.1, r731.2)).bind fun r732 =>
          let x733 : Int := (IntKind.wrap .i32 v.1.2.2.2.2.2.2.2.2.2.2.2.2.2.2.2.2.2.2.2.2.2.2.2.2.2.2.2.2.2.1)
          let x734 : Int := (IntKind.wrap .i64 x733)
          (F31_0 ((v.1.2.2.2.2.2.2.2.2.2.2.1, (v.1.2.2.2.2.2.2.2.2.2.2.2.1, v.1.2.2.2.2.2.2.2.2.2.2.2.2.1)), r732.2)).bind fun r735 =>
          (F32_0 ((2 : Int), r735.2)).bind fun r736 =>
          some ((r731.1, (v.1.2.2.1, (v.1.2.2.2.2.2.2.2.2.2.2.2.2.2.2.2.2.2.2.2.2.2.2.2.2.2.1, (r732.1, (x734, (x730, (r735.1, r736.1))))))), r736.2)
        else
          (F31_0 ((v.1.2.2.2.1, (v.1.2.2.2.2.1, v.1.2.2.2.2.2.1)), v.2)).bind fun r737 =>
          (F32_0 (v.1.2.2.2.2.2.2.2.2.2.2.2.2.2.2.2.2.2.2.2.2.2.2.2.2.2.2.2.1, r737.2)).bind fun r738 =>
          let x739 : Int := (IntKind.wrap .i32 v.1.2.2.2.2.2.2.2.2.2.2.2.2.2.2.2.2.2.2.2.2.2.2.2.2.2.2.2.2.2.1)
          let x740 : Int := (IntKind.wrap .i64 x739)
          (F31_0 ((v.1.2.2.2.2.2.2.2.2.2.2.1, (v.1.2.2.2.2.2.2.2.2.2.2.2.1, v.1.2.2.2.2.2.2.2.2.2.2.2.2.1)), r738.2)).bind fun r741 =>
          (F32_0 ((1 : Int), r741.2)).bind fun r742 =>
          some ((r737.1, (v.1.2.2.1, (v.1.2.2.2.2.2.2.2.2.2.2.2.2.2.2.2.2.2.2.2.2.2.2.2.2.2.1, (r738.1, (x740, (x730, (r741.1, r742.1))))))), r742.2)
  else
    let x743 : Int := (if v.1.2.2.2.2.2.2.2.2.2.2.2.2.2.2.2.2.2.1 > x687 then v.1.2.2.2.2.2.2.2.2.2.2.2.2.2.2.2.2.2.1 else x687)
    bif v.1.2.2.2.2.2.2.2.2.2.2.2.2.2.2.2.2.2.2.1 then
      let x744 : Int := (if v.1.2.2.2.2.2.2.2.2.2.2.2.2.2.2.2.2.2.2.2.2.1 > x743 then v.1.2.2.2.2.2.2.2.2.2.2.2.2.2.2.2.2.2.2.2.2.1 else x743)
      bif v.1.2.2.2.2.2.2.2.2.2.2.2.2.2.2.2.2.2.2.2.2.2.1 then
        let x745 : Int := (if v.1.2.2.2.2.2.2.2.2.2.2.2.2.2.2.2.2.2.2.2.2.2.2.2.1 > x744 then v.1.2.2.2.2.2.2.2.2.2.2.2.2.2.2.2.2.2.2.2.2.2.2.2.1 else x744)
        bif v.1.2.2.2.2.2.2.2.2.2.2.2.2.2.2.2.2.2.2.2.2.2.2.2.2.1 then
          (F31_0 ((v.1.2.2.2.1, (v.1.2.2.2.2.1, v.1.2.2.2.2.2.1)), v.2)).bind fun r746 =>
          (F32_0 (v.1.2.2.2.2.2.2.2.2.2.2.2.2.2.2.2.2.2.2.2.2.2.2.2.2.2.2.2.1, r746.2)).bind fun r747 =>
          let x748 : Int := (IntKind.wrap .i32 v.1.2.2.2.2.2.2.2.2.2.2.2.2.2.2.2.2.2.2.2.2.2.2.2.2.2.2.2.2.2.1)
          let x749 : Int := (IntKind.wrap .i64 x748)
          (F31_0 ((v.1.2.2.2.2.2.2.2.2.2.2.1, (v.1.2.2.2.2.2.2.2.2.2.2.2.1, v.1.2.2.2.2.2.2.2.2.2.2.2.2.1)), r747.2)).bind fun r750 =>
          (F32_0 ((3 : Int), r750.2)).bind fun r751 =>
          some ((r746.1, (v.1.2.2.1, (v.1.2.2.2.2.2.2.2.2.2.2.2.2.2.2.2.2.2.2.2.2.2.2.2.2.2.1, (r747.1, (x749, (x745, (r750.1, r751.1))))))), r751.2)
        else
          (F31_0 ((v.1.2.2.2.1, (v.1.2.2.2.2.1, v.1.2.2.2.2.2.1)), v.2)).bind fun r752 =>
          (F32_0 (v.1.2.2.2.2.2.2.2.2.2.2.2.2.2.2.2.2.2.2.2.2.2.2.2.2.2.2.2.1, r752.2)).bind fun r753 =>
          let x754 : Int := (IntKind.wrap .i32 v.1.2.2.2.2.2.2.2.2.2.2.2.2.2.2.2.2.2.2.2.2.2.2.2.2.2.2.2.2.2.1)
          let x755 : Int := (IntKind.wrap .i64 x754)
          (F31_0 ((v.1.2.2.2.2.2.2.2.2.2.2.1, (v.1.2.2.2.2.2.2.2.2.2.2.2.1, v.1.2.2.2.2.2.2.2.2.2.2.2.2.1)), r753.2)).bind fun r756 =>
          (F32_0 ((2 : Int), r756.2)).bind fun r757 =>
          some ((r752.1, (v.1.2.2.1, (v.1.2.2.2.2.2.2.2.2.2.2.2.2.2.2.2.2.2.2.2.2.2.2.2.2.2.1, (r753.1, (x755, (x745, (r756.1, r757.1))))))), r757.2)
      else
        let x758 : Int := (if v.1.2.2.2.2.2.2.2.2.2.2.2.2.2.2.2.2.2.2.2.2.2.2.2.1 > x744 then v.1.2.2.2.2.2.2.2.2.2.2.2.2.2.2.2.2.2.2.2.2.2.2.2.1 else x744)
        bif v.1.2.2.2.2.2.2.2.2.2.2.2.2.2.2.2.2.2.2.2.2.2.2.2.2.1 then
          (F31_0 ((v.1.2.2.2.1, (v.1.2.2.2.2.1, v.1.2.2.2.2.2.1)), v.2)).bind fun r759 =>
          (F32_0 (v.1.2.2.2.2.2.2.2.2.2.2.2.2.2.2.2.2.2.2.2.2.2.2.2.2.2.2.2.1, r759.2)).bind fun r760 =>
          let x761 : Int := (IntKind.wrap .i32 v.1.2.2.2.2.2.2.2.2.2.2.2.2.2.2.2.2.2.2.2.2.2.2.2.2.2.2.2.2.2.1)
          let x762 : Int := (IntKind.wrap .i64 x761)
          (F31_0 ((v.1.2.2.2.2.2.2.2.2.2.2.1, (v.1.2.2.2.2.2.2.2.2.2.2.2.1, v.1.2.2.2.2.2.2.2.2.2.2.2.2.1)), r760.2)).bind fun r763 =>
          (F32_0 ((2 : Int), r763.2)).bind fun r764 =>
          some ((r759.1, (v.1.2.2.1, (v.1.2.2.2.2.2.2.2.2.2.2.2.2.2.2.2.2.2.2.2.2.2.2.2.2.2.1, (r760.1, (x762, (x758, (r763.1, r764.1))))))), r764.2)
        else
          (F31_0 ((v.1.2.2.2.1, (v.1.2.2.2.2.1, v.1.2.2.2.2.2.1)), v.2)).bind fun r765 =>
          (F32_0 (v.1.2.2.2.2.2.2.2.2.2.2.2.2.2.2.2.2.2.2.2.2.2.2.2.2.2.2.2.1, r765.2)).bind fun r766 =>
          let x767 : Int := (IntKind.wrap .i32 v.1.2.2.2.2.2.2.2.2.2.2.2.2.2.2.2.2.2.2.2.2.2.2.2.2.2.2.2.2.2.1)
          let x768 : Int := (IntKind.wrap .i64 x767)
          (F31_0 ((v.1.2.2.2.2.2.2.2.2.2.2.1, (v.1.2.2.2.2.2.2.2.2.2.2.2.1, v.1.2.2.2.2.2.2.2.2.2.2.2.2.1)), r766.2)).bind fun r769 =>
          (F32_0 ((1 : Int), r769.2)).bind fun r770 =>
          some ((r765.1, (v.1.2.2.1, (v.1.2.2.2.2.2.2.2.2.2.2.2.2.2.2.2.2.2.2.2.2.2.2.2.2.2.1, (r766.1, (x768, (x758, (r769.1, r770.1))))))), r770.2)
    else
      let x771 : Int := (if v.1.2.2.2.2.2.2.2.2.2.2.2.2.2.2.2.2.2.2.2.2.1 > x743 then v.1.2.2.2.2.2.2.2.2.2.2.2.2.2.2.2.2.2.2.2.2.1 else x743)
      bif v.1.2.2.2.2.2.2.2.2.2.2.2.2.2.2.2.2.2.2.2.2.2.1 then
        let x772 : Int := (if v.1.2.2.2.2.2.2.2.2.2.2.2.2.2.2.2.2.2.2.2.2.2.2.2.1 > x771 then v.1.2.2.2.2.2.2.2.2.2.2.2.2.2.2.2.2.2.2.2.2.2.2.2.1 else x771)
        bif v.1.2.2.2.2.2.2.2.2.2.2.2.2.2.2.2.2.2.2.2.2.2.2.2.2.1 then
          (F31_0 ((v.1.2.2.2.1, (v.1.2.2.2.2.1, v.1.2.2.2.2.2.1)), v.2)).bind fun r773 =>
          (F32_0 (v.1.2.2.2.2.2.2.2.2.2.2.2.2.2.2.2.2.2.2.2.2.2.2.2.2.2.2.2.1, r773.2)).bind fun r774 =>
          let x775 : Int := (IntKind.wrap .i32 v.1.2.2.2.2.2.2.2.2.2.2.2.2.2.2.2.2.2.2.2.2.2.2.2.2.2.2.2.2.2.1)
          let x776 : Int := (IntKind.wrap .i64 x775)
          (F31_0 ((v.1.2.2.2.2.2.2.2.2.2.2.1, (v.1.2.2.2.2.2.2.2.2.2.2.2.1, v.1.2.2.2.2.2.2.2.2.2.2.2.2.1)), r774.2)).bind fun r777 =>
          (F32_0 ((2 : Int), r777.2)).bind fun r778 =>
          some ((r773.1, (v.1.2.2.1, (v.1.2.2.2.2.2.2.2.2.2.2.2.2.2.2.2.2.2.2.2.2.2.2.2.2.2.1, (r774.1, (x776, (x772, (r777.1, r778.1))))))), r778.2)
        else
          (F31_0 ((v.1.2.2.2.1, (v.1.2.2.2.2.1, v.1.2.2.2.2.2.1)), v.2)).bind fun r779 =>
          (F32_0 (v.1.2.2.2.2.2.2.2.2.2.2.2.2.2.2.2.2.2.2.2.2.2.2.2.2.2.2.2.1, r779.2)).bind fun r780 =>
          let x781 : Int := (IntKind.wrap .i32 v.1.2.2.2.2.2.2.2.2.2.2.2.2.2.2.2.2.2.2.2.2.2.2.2.2.2.2.2.2.2.1)
          let x782 : Int := (IntKind.wrap .i64 x781)
          (F31_0 ((v.1.2.2.2.2.2.2.2.2.2.2.1, (v.1.2.2.2.2.2.2.2.2.2.2.2.1, v.1.2.2.2.2.2.2.2.2.2.2.2.2.1)), r780.2)).bind fun r783 =>
          (F32_0 ((1 : Int), r783.2)).bind fun r784 =>
          some ((r779.1, (v.1.2.2.1, (v.1.2.2.2.2.2.2.2.2.2.2.2.2.2.2.2.2.2.2.2.2.2.2.2.2.2.1, (r780.1, (x782, (x772, (r783.1, r784.1))))))), r784.2)
      else
        let x785 : Int := (if v.1.2.2.2.2.2.2.2.2.2.2.2.2.2.2.2.2.2.2.2.2.2.2.2.1 > x771 then v.1.2.2.2.2.2.2.2.2.2.2.2.2.2.2.2.2.2.2.2.2.2.2.2.1 else x771)
        bif v.1.2.2.2.2.2.2.2.2.2.2.2.2.2.2.2.2.2.2.2.2.2.2.2.2.1 then
          (F31_0 ((v.1.2.2.2.1, (v.1.2.2.2.2.1, v.1.2.2.2.2.2.1)), v.2)).bind fun r786 =>
          (F32_0 (v.1.2.2.2.2.2.2.2.2.2.2.2.2.2.2.2.2.2.2.2.2.2.2.2.2.2.2.2.1, r786.2)).bind fun r787 =>
          let x788 : Int := (IntKind.wrap .i32 v.1.2.2.2.2.2.2.2.2.2.2.2.2.2.2.2.2.2.2.2.2.2.2.2.2.2.2.2.2.2.1)
          let x789 : Int := (IntKind.wrap .i64 x788)
          (F31_0 ((v.1.2.2.2.2.2.2.2.2.2.2.1, (v.1.2.2.2.2.2.2.2.2.2.2.2.1, v.1.2.2.2.2.2.2.2.2.2.2.2.2.1)), r787.2)).bind fun r790 =>
          (F32_0 ((1 : Int), r790.2)).bind fun r791 =>
          some ((r786.1, (v.1.2.2.1, (v.1.2.2.2.2.2.2.2.2.2.2.2.2.2.2.2.2.2.2.2.2.2.2.2.2.2.1, (r787.1, (x789, (x785, (r790.1, r791.1))))))), r791.2)
        else
          (F31_0 ((v.1.2.2.2.1, (v.1.2.2.2.2.1, v.1.2.2.2.2.2.1)), v.2)).bind fun r792 =>
          (F32_0 (v.1.2.2.2.2.2.2.2.2.2.2.2.2.2.2.2.2.2.2.2.2.2.2.2.2.2.2.2.1, r792.2)).bind fun r793 =>
          let x794 : Int := (IntKind.wrap .i32 v.1.2.2.2.2.2.2.2.2.2.2.2.2.2.2.2.2.2.2.2.2.2.2.2.2.2.2.2.2.2.1)
          let x795 : Int := (IntKind.wrap .i64 x794)
          (F31_0 ((v.1.2.2.2.2.2.2.2.2.2.2.1, (v.1.2.2.2.2.2.2.2.2.2.2.2.1, v.1.2.2.2.2.2.2.2.2.2.2.2.2.1)), r793.2)).bind fun r796 =>
          (F32_0 ((0 : Int), r796.2)).bind fun r797 =>
          some ((r792.1, (v.1.2.2.1, (v.1.2.2.2.2.2.2.2.2.2.2.2.2.2.2.2.2.2.2.2.2.2.2.2.2.2.1, (r793.1, (x795, (x785, (r796.1, r797.1))))))), r797.2)

noncomputable def k15_0 : List (Known Try.prog E) := [Known.of envOk [5, 9] [(.ptr 0 0 52 [.keep]), (.agg [.keep, .keep, .keep])] v31_0 F31_0 w31_0 ok31_0, Known.of envOk [5, 1] [(.ptr 0 0 52 [.keep]), .keep] v32_0 F32_0 w32_0 ok32_0]
noncomputable def L15_0 (n id : Nat) (st : St G) : Option ((Int × Int × Int × Int × Int × Int × Int × Int) × Bool) := none
set_option maxRecDepth 100000 in
theorem e15_0 (n : Nat) (v : (Int × Int × Int × Int × Int × Int × Int × Int × Int × Int × Int × Int × Int × Int × Int × Bool × Int × Int × Bool × Int × Int × Bool × Int × Int × Bool × Int × Bool × Int × Int × Int × Int × Int × Bool × Bool × Int × Int × Int × Int × Int × Bool × Bool) × Bool) : ev Try.prog E (oracle k15_0) Try.f15.ntmps (fun x => mem x []) (L15_0 n) (finA Try.prog E Try.f15.results.toList [(.ptr 0 0 52 [.keep])] w15_0.alts) 4000 [.code (Try.f15.body.getD .skip)] (argSt (v15_0.enc v)) = F15_0 v := by kernel_rfl
theorem ok15_0 : FnOk Try.prog E 15 v15_0.enc F15_0 w15_0.enc :=
  fn_known (fn := Try.f15) (c := (Try.f15.body.getD .skip)) Try.func15 (by kernel_rfl) rfl envOk (oracle_ok k15_0) mixed v15_0 F15_0 w15_0 [(.ptr 0 0 52 [.keep])] [] 4000 L15_0 (by kernel_rfl)
    (fun _ h => nomatch h) (fun v _ h => ⟨0, (e15_0 _ v).trans h⟩) (fun _ => by kernel_rfl) (fun _ => by kernel_rfl) (fun _ _ => by kernel_rfl)
/- chicane/chicanelaw41.awake -/
abbrev A17_0 : Type := Unit
abbrev R17_0 : Type := Bool
def v17_0 : Pk G Unit := (Pk.snd (pk Sh.nil Sh.hnil))
def w17_0 : Wk G Bool := (Wk.one [.keep] (Pk.fst (pk (Sh.fst (Sh.cons Sh.bool Sh.nil)) Sh.hnil)))
def F17_0 (v : Unit) : Option Bool :=
  (F15_0 (((0 : Int), ((0 : Int), ((0 : Int), ((12884901888 : Int), ((17179869184 : Int), ((0 : Int), ((0 : Int), ((0 : Int), ((0 : Int), ((0 : Int), ((0 : Int), ((0 : Int), ((0 : Int), ((0 : Int), ((0 : Int), (false, ((0 : Int), ((0 : Int), (false, ((0 : Int), ((0 : Int), (false, ((0 : Int), ((0 : Int), (false, ((0 : Int), (false, ((-1 : Int), ((0 : Int), ((0 : Int), ((0 : Int), ((0 : Int), (false, (false, ((0 : Int), ((0 : Int), ((0 : Int), ((0 : Int), ((0 : Int), (false, false)))))))))))))))))))))))))))))))))))))))), false)).bind fun r802 =>
  (F18_0 ([] : List (Int × Int × Int × Int × Int × Int × Int × Int))).bind fun r803 =>
  bif (((r803).length : Int) == (12 : Int)) then
    bif (r802.1.1 == (21474836480 : Int)) then
      bif (r802.1.2.2.2.1 == (-4294967296 : Int)) then
        some (!r802.2)
      else
        some (false)
    else
      some (false)
  else
    some (false)

noncomputable def k17_0 : List (Known Try.prog E) := [Known.of envOk [5, 9] [(.ptr 0 0 52 [.keep]), (.agg [.keep, .keep, .keep, .keep, .keep, .keep, .keep, .keep, .keep, .keep, .keep, .keep, .keep, .keep, .keep, .keep, .keep, .keep, .keep, .keep, .keep, .keep, .keep, .keep, .keep, .keep, .keep, .keep, .keep, .keep, .keep, .keep, .keep, .keep, .keep, .keep, .keep, .keep, .keep, .keep, .keep])] v15_0 F15_0 w15_0 ok15_0, Known.of envOk [7] [(.ros 56)] v18_0 F18_0 w18_0 ok18_0]
noncomputable def L17_0 (n id : Nat) (st : St G) : Option Bool := none
set_option maxRecDepth 100000 in
theorem e17_0 (n : Nat) (v : Unit) : ev Try.prog E (oracle k17_0) Try.f17.ntmps (fun x => mem x []) (L17_0 n) (finA Try.prog E Try.f17.results.toList [] w17_0.alts) 4000 [.code (Try.f17.body.getD .skip)] (argSt (v17_0.enc v)) = F17_0 v := by kernel_rfl
theorem ok17_0 : FnOk Try.prog E 17 v17_0.enc F17_0 w17_0.enc :=
  fn_known (fn := Try.f17) (c := (Try.f17.body.getD .skip)) Try.func17 (by kernel_rfl) rfl envOk (oracle_ok k17_0) mixed v17_0 F17_0 w17_0 [] [] 4000 L17_0 (by kernel_rfl)
    (fun _ h => nomatch h) (fun v _ h => ⟨0, (e17_0 _ v).trans h⟩) (fun _ => by kernel_rfl) (fun _ => by kernel_rfl) (fun _ _ => by kernel_rfl)
/- chicane/chicanelaw41.TelemetryPacks -/
abbrev A6_0 : Type := List (Int × Int × Int × Int × Int × Int × Int × Int)
abbrev R6_0 : Type := Bool
def v6_0 : Pk G (List (Int × Int × Int × Int × Int × Int × Int × Int)) := (Pk.fst (pk (Sh.fst (Sh.cons (Sh.ros 56) Sh.nil)) Sh.hnil))
def w6_0 : Wk G Bool := (Wk.one [.keep] (Pk.fst (pk (Sh.fst (Sh.cons Sh.bool Sh.nil)) Sh.hnil)))
def F6_0 (v : List (Int × Int × Int × Int × Int × Int × Int × Int)) : Option Bool :=
  bif (decide (((v).length : Int) > (200 : Int))) then
    some (true)
  else
    (F18_0 v).bind fun r811 =>
    (strOf (E.enc 5) r811).bind fun (x812 : List UInt8) =>
    (F20_0 v).bind fun r813 =>
    (F19_0 r813).bind fun r814 =>
    (strOf (E.enc 5) r814).bind fun (x815 : List UInt8) =>
    bif ((⟨x812.toArray⟩ : ByteArray) == (⟨x815.toArray⟩ : ByteArray)) then
      (F17_0 ()).bind fun r816 =>
      some (r816)
    else
      some (false)

noncomputable def k6_0 : List (Known Try.prog E) := [Known.of envOk [7] [(.ros 56)] v18_0 F18_0 w18_0 ok18_0, Known.of envOk [7] [(.ros 56)] v20_0 F20_0 w20_0 ok20_0, Known.of envOk [7] [(.ros 55)] v19_0 F19_0 w19_0 ok19_0, Known.of envOk [] [] v17_0 F17_0 w17_0 ok17_0]
noncomputable def L6_0 (n id : Nat) (st : St G) : Option Bool := none
set_option maxRecDepth 100000 in
theorem e6_0 (n : Nat) (v : List (Int × Int × Int × Int × Int × Int × Int × Int)) : ev Try.prog E (oracle k6_0) Try.f6.ntmps (fun x => mem x []) (L6_0 n) (finA Try.prog E Try.f6.results.toList [] w6_0.alts) 4000 [.code (Try.f6.body.getD .skip)] (argSt (v6_0.enc v)) = F6_0 v := by kernel_rfl
theorem ok6_0 : FnOk Try.prog E 6 v6_0.enc F6_0 w6_0.enc :=
  fn_known (fn := Try.f6) (c := (Try.f6.body.getD .skip)) Try.func6 (by kernel_rfl) rfl envOk (oracle_ok k6_0) mixed v6_0 F6_0 w6_0 [] [] 4000 L6_0 (by kernel_rfl)
    (fun _ h => nomatch h) (fun v _ h => ⟨0, (e6_0 _ v).trans h⟩) (fun _ => by kernel_rfl) (fun _ => by kernel_rfl) (fun _ _ => by kernel_rfl)
/- chicane/wire.NewIn -/
abbrev A46_0 : Type := List Int
abbrev R46_0 : Type := (Int × Int × Int × Int) × List Int
def v46_0 : Pk G (List Int) := (Pk.fst (pk (Sh.fst (Sh.cons (Sh.ros 5) Sh.nil)) Sh.hnil))
def w46_0 : Wk G ((Int × Int × Int × Int) × List Int) := (Wk.one [(.ptr 0 0 152 [(.own 1 5), .keep, .keep, .keep, .keep])] (Pk.snd (pk (Sh.snd (Sh.cons (Sh.ptr 0 0) Sh.nil)) (Sh.hfix 0 152 (Sh.snd (Sh.cons (Sh.osl 1) (Sh.cons (Sh.int .i64) (Sh.cons (Sh.int .i64) (Sh.cons (Sh.int .i64) (Sh.fst (Sh.cons (Sh.int .i64) Sh.nil))))))) (Sh.fst (Sh.hrow 1 5 Sh.hnil))))))
def F46_0 (v : List Int) : Option ((Int × Int × Int × Int) × List Int) :=
  (F77_0 v).bind fun r822 =>
  some (((0 : Int), ((0 : Int), ((0 : Int), (0 : Int)))), r822)

noncomputable def k46_0 : List (Known Try.prog E) := [Known.of envOk [7] [(.ros 5)] v77_0 F77_0 w77_0 ok77_0]
noncomputable def L46_0 (n id : Nat) (st : St G) : Option ((Int × Int × Int × Int) × List Int) := none
set_option maxRecDepth 100000 in
theorem e46_0 (n : Nat) (v : List Int) : ev Try.prog E (oracle k46_0) Try.f46.ntmps (fun x => mem x []) (L46_0 n) (finA Try.prog E Try.f46.results.toList [] w46_0.alts) 4000 [.code (Try.f46.body.getD .skip)] (argSt (v46_0.enc v)) = F46_0 v := by kernel_rfl
theorem ok46_0 : FnOk Try.prog E 46 v46_0.enc F46_0 w46_0.enc :=
  fn_known (fn := Try.f46) (c := (Try.f46.body.getD .skip)) Try.func46 (by kernel_rfl) rfl envOk (oracle_ok k46_0) mixed v46_0 F46_0 w46_0 [] [] 4000 L46_0 (by kernel_rfl)
    (fun _ h => nomatch h) (fun v _ h => ⟨0, (e46_0 _ v).trans h⟩) (fun _ => by kernel_rfl) (fun _ => by kernel_rfl) (fun _ _ => by kernel_rfl)
/- (*chicane/wire.In).fail -/
abbrev A85_0 : Type := (Int × Int) × (Int × Int × Int × Int) × List Int
abbrev R85_0 : Type := (Int × Int × Int × Int) × List Int
def v85_0 : Pk G ((Int × Int) × (Int × Int × Int × Int) × List Int) := (pk (Sh.snd (Sh.cons (Sh.ptr 0 0) (Sh.cons (Sh.int .i64) (Sh.fst (Sh.cons (Sh.int .i64) Sh.nil))))) (Sh.hfix 0 152 (Sh.snd (Sh.cons (Sh.osl 1) (Sh.cons (Sh.int .i64) (Sh.cons (Sh.int .i64) (Sh.cons (Sh.int .i64) (Sh.fst (Sh.cons (Sh.int .i64) Sh.nil))))))) (Sh.fst (Sh.hrow 1 5 Sh.hnil))))
def w85_0 : Wk G ((Int × Int × Int × Int) × List Int) := (Wk.one [] (Pk.snd (pk Sh.nil (Sh.hfix 0 152 (Sh.snd (Sh.cons (Sh.osl 1) (Sh.cons (Sh.int .i64) (Sh.cons (Sh.int .i64) (Sh.cons (Sh.int .i64) (Sh.fst (Sh.cons (Sh.int .i64) Sh.nil))))))) (Sh.fst (Sh.hrow 1 5 Sh.hnil))))))
def F85_0 (v : (Int × Int) × (Int × Int × Int × Int) × List Int) : Option ((Int × Int × Int × Int) × List Int) :=
  bif (v.2.1.2.2.1 == (0 : Int)) then
    some ((v.2.1.1, (v.2.1.2.1, v.1)), v.2.2)
  else
    some (v.2)

noncomputable def k85_0 : List (Known Try.prog E) := []
noncomputable def L85_0 (n id : Nat) (st : St G) : Option ((Int × Int × Int × Int) × List Int) := none
set_option maxRecDepth 100000 in
theorem e85_0 (n : Nat) (v : (Int × Int) × (Int × Int × Int × Int) × List Int) : ev Try.prog E (oracle k85_0) Try.f85.ntmps (fun x => mem x []) (L85_0 n) (finA Try.prog E Try.f85.results.toList [(.own 1 5), (.ptr 0 0 152 [(.own 1 5), .keep, .keep, .keep, .keep])] w85_0.alts) 4000 [.code (Try.f85.body.getD .skip)] (argSt (v85_0.enc v)) = F85_0 v := by kernel_rfl
theorem ok85_0 : FnOk Try.prog E 85 v85_0.enc F85_0 w85_0.enc :=
  fn_known (fn := Try.f85) (c := (Try.f85.body.getD .skip)) Try.func85 (by kernel_rfl) rfl envOk (oracle_ok k85_0) mixed v85_0 F85_0 w85_0 [(.own 1 5), (.ptr 0 0 152 [(.own 1 5), .keep, .keep, .keep, .keep])] [] 4000 L85_0 (by kernel_rfl)
    (fun _ h => nomatch h) (fun v _ h => ⟨0, (e85_0 _ v).trans h⟩) (fun _ => by kernel_rfl) (fun _ => by kernel_rfl) (fun _ _ => by kernel_rfl)
/- (*chicane/wire.In).word -/
abbrev A84_0 : Type := Int × (Int × Int × Int × Int) × List Int
abbrev R84_0 : Type := ((Int × Int × Int × Int) × List Int) ⊕ (((Nat × Nat)) × (Int × Int × Int × Int) × List Int)
def v84_0 : Pk G (Int × (Int × Int × Int × Int) × List Int) := (pk (Sh.snd (Sh.cons (Sh.ptr 0 0) (Sh.fst (Sh.cons (Sh.int .i64) Sh.nil)))) (Sh.hfix 0 152 (Sh.snd (Sh.cons (Sh.osl 1) (Sh.cons (Sh.int .i64) (Sh.cons (Sh.int .i64) (Sh.cons (Sh.int .i64) (Sh.fst (Sh.cons (Sh.int .i64) Sh.nil))))))) (Sh.fst (Sh.hrow 1 5 Sh.hnil))))
def w84_0 : Wk G (((Int × Int × Int × Int) × List Int) ⊕ (((Nat × Nat)) × (Int × Int × Int × Int) × List Int)) := (Wk.alt (Wk.one [.keep] (Pk.snd (pk (Sh.snd (Sh.cons Sh.nilsl Sh.nil)) (Sh.hfix 0 152 (Sh.snd (Sh.cons (Sh.osl 1) (Sh.cons (Sh.int .i64) (Sh.cons (Sh.int .i64) (Sh.cons (Sh.int .i64) (Sh.fst (Sh.cons (Sh.int .i64) Sh.nil))))))) (Sh.fst (Sh.hrow 1 5 Sh.hnil)))))) (Wk.one [(.sub 1 1)] (pk (Sh.fst (Sh.cons (Sh.sub 1 1) Sh.nil)) (Sh.hfix 0 152 (Sh.snd (Sh.cons (Sh.osl 1) (Sh.cons (Sh.int .i64) (Sh.cons (Sh.int .i64) (Sh.cons (Sh.int .i64) (Sh.fst (Sh.cons (Sh.int .i64) Sh.nil))))))) (Sh.fst (Sh.hrow 1 5 Sh.hnil))))))
def F84_0 (v : Int × (Int × Int × Int × Int) × List Int) : Option (((Int × Int × Int × Int) × List Int) ⊕ (((Nat × Nat)) × (Int × Int × Int × Int) × List Int)) :=
  bif (v.2.1.2.2.1 != (0 : Int)) then
    some (.inl v.2)
  else
    let x832 : Int := (IntKind.wrap .i64 (((v.2.2).length : Int) - v.2.1.1))
    bif (decide (v.1 > x832)) then
      (F85_0 (((20 : Int), ((v.2.2).length : Int)), v.2)).bind fun r833 =>
      some (.inl r833)
    else
      let x834 : Int := (IntKind.wrap .i64 (v.2.1.1 + v.1))
      (chk (decide (x834 = x834))).bind fun _ =>
      (cutn v.2.1.1 x834 ((v.2.2).length : Int)).bind fun (x835 : Nat × Nat) =>
      some (.inr (x835, ((x834, (v.2.1.1, v.2.1.2.2)), v.2.2)))

noncomputable def k84_0 : List (Known Try.prog E) := [Known.of envOk [5, 1, 1] [(.ptr 0 0 152 [(.own 1 5), .keep, .keep, .keep, .keep]), .keep, .keep] v85_0 F85_0 w85_0 ok85_0]
noncomputable def L84_0 (n id : Nat) (st : St G) : Option (((Int × Int × Int × Int) × List Int) ⊕ (((Nat × Nat)) × (Int × Int × Int × Int) × List Int)) := none
set_option maxRecDepth 100000 in
theorem e84_0 (n : Nat) (v : Int × (Int × Int × Int × Int) × List Int) : ev Try.prog E (oracle k84_0) Try.f84.ntmps (fun x => mem x []) (L84_0 n) (finA Try.prog E Try.f84.results.toList [(.own 1 5), (.ptr 0 0 152 [(.own 1 5), .keep, .keep, .keep, .keep])] w84_0.alts) 4000 [.code (Try.f84.body.getD .skip)] (argSt (v84_0.enc v)) = F84_0 v := by kernel_rfl
theorem ok84_0 : FnOk Try.prog E 84 v84_0.enc F84_0 w84_0.enc :=
  fn_known (fn := Try.f84) (c := (Try.f84.body.getD .skip)) Try.func84 (by kernel_rfl) rfl envOk (oracle_ok k84_0) mixed v84_0 F84_0 w84_0 [(.own 1 5), (.ptr 0 0 152 [(.own 1 5), .keep, .keep, .keep, .keep])] [] 4000 L84_0 (by kernel_rfl)
    (fun _ h => nomatch h) (fun v _ h => ⟨0, (e84_0 _ v).trans h⟩) (fun _ => by kernel_rfl) (fun _ => by kernel_rfl) (fun _ r => by rcases r with r | r <;> kernel_rfl)
/- (*chicane/wire.In).Mark -/
abbrev A47_0 : Type := ByteArray × (Int × Int × Int × Int) × List Int
abbrev R47_0 : Type := (Int × Int × Int × Int) × List Int
def v47_0 : Pk G (ByteArray × (Int × Int × Int × Int) × List Int) := (pk (Sh.snd (Sh.cons (Sh.ptr 0 0) (Sh.fst (Sh.cons Sh.str Sh.nil)))) (Sh.hfix 0 152 (Sh.snd (Sh.cons (Sh.osl 1) (Sh.cons (Sh.int .i64) (Sh.cons (Sh.int .i64) (Sh.cons (Sh.int .i64) (Sh.fst (Sh.cons (Sh.int .i64) Sh.nil))))))) (Sh.fst (Sh.hrow 1 5 Sh.hnil))))
def w47_0 : Wk G ((Int × Int × Int × Int) × List Int) := (Wk.one [] (Pk.snd (pk Sh.nil (Sh.hfix 0 152 (Sh.snd (Sh.cons (Sh.osl 1) (Sh.cons (Sh.int .i64) (Sh.cons (Sh.int .i64) (Sh.cons (Sh.int .i64) (Sh.fst (Sh.cons (Sh.int .i64) Sh.nil))))))) (Sh.fst (Sh.hrow 1 5 Sh.hnil))))))
def F47_0 (v : ByteArray × (Int × Int × Int × Int) × List Int) : Option ((Int × Int × Int × Int) × List Int) :=
  (F84_0 ((4 : Int), v.2)).bind fun r856 =>
  match r856 with
  | .inl r857 =>
    some (r857)
  | .inr r858 =>
    (chk (decide (r858.1.2 ≠ 0))).bind fun _ =>
    (chk (decide (4 ≤ r858.1.2))).bind fun _ =>
    ((r858.2.2)[r858.1.1]?).bind fun (x859 : Int) =>
    ((r858.2.2)[r858.1.1 + 1]?).bind fun (x860 : Int) =>
    ((r858.2.2)[r858.1.1 + 1 + 1]?).bind fun (x861 : Int) =>
    ((r858.2.2)[r858.1.1 + 1 + 1 + 1]?).bind fun (x862 : Int) =>
    (F75_0 v.1).bind fun r863 =>
    let x864 : Bool := ((x859 == r863.1) && ((x860 == r863.2.1) && ((x861 == r863.2.2.1) && ((x862 == r863.2.2.2) && true))))
    bif (!x864) then
      (F85_0 (((21 : Int), r858.2.1.2.1), r858.2)).bind fun r865 =>
      some (r865)
    else
      some (r858.2)

noncomputable def k47_0 : List (Known Try.prog E) := [Known.of envOk [5, 1] [(.ptr 0 0 152 [(.own 1 5), .keep, .keep, .keep, .keep]), .keep] v84_0 F84_0 w84_0 ok84_0, Known.of envOk [3] [.keep] v75_0 F75_0 w75_0 ok75_0, Known.of envOk [5, 1, 1] [(.ptr 0 0 152 [(.own 1 5), .keep, .keep, .keep, .keep]), .keep, .keep] v85_0 F85_0 w85_0 ok85_0]
noncomputable def L47_0 (n id : Nat) (st : St G) : Option ((Int × Int × Int × Int) × List Int) := none
set_option maxRecDepth 100000 in
theorem e47_0 (n : Nat) (v : ByteArray × (Int × Int × Int × Int) × List Int) : ev Try.prog E (oracle k47_0) Try.f47.ntmps (fun x => mem x []) (L47_0 n) (finA Try.prog E Try.f47.results.toList [(.own 1 5), (.ptr 0 0 152 [(.own 1 5), .keep, .keep, .keep, .keep])] w47_0.alts) 4000 [.code (Try.f47.body.getD .skip)] (argSt (v47_0.enc v)) = F47_0 v := by kernel_rfl
theorem ok47_0 : FnOk Try.prog E 47 v47_0.enc F47_0 w47_0.enc :=
  fn_known (fn := Try.f47) (c := (Try.f47.body.getD .skip)) Try.func47 (by kernel_rfl) rfl envOk (oracle_ok k47_0) mixed v47_0 F47_0 w47_0 [(.own 1 5), (.ptr 0 0 152 [(.own 1 5), .keep, .keep, .keep, .keep])] [] 4000 L47_0 (by kernel_rfl)
    (fun _ h => nomatch h) (fun v _ h => ⟨0, (e47_0 _ v).trans h⟩) (fun _ => by kernel_rfl) (fun _ => by kernel_rfl) (fun _ _ => by kernel_rfl)
/- chicane/wire.from -/
abbrev A86_0 : Type := List Int
abbrev R86_0 : Type := Int
def v86_0 : Pk G (List Int) := (Pk.fst (pk (Sh.fst (Sh.cons (Sh.ros 5) Sh.nil)) Sh.hnil))
def w86_0 : Wk G Int := (Wk.one [.keep] (Pk.fst (pk (Sh.fst (Sh.cons (Sh.int .u64) Sh.nil)) Sh.hnil)))
def c86_0_3 : Pk G (Int × List Int × Int × Int) := (Pk.fst (pk (Sh.cons (Sh.int .u64) (Sh.cons (Sh.ros 5) (Sh.cons (Sh.int .i64) (Sh.fst (Sh.cons (Sh.int .i64) Sh.nil))))) Sh.hnil))
def B86_0_3 (K : ((Int × List Int × Int × Int) → Option Int)) (v : Int × List Int × Int × Int) : Option Int :=
  bif (decide (v.2.2.2 < v.2.2.1)) then
    (rdx v.2.1 v.2.2.2).bind fun (x884 : Int) =>
    let x885 : Int := (IntKind.wrap .u64 x884)
    let x886 : Int := (IntKind.wrap .i64 ((8 : Int) * v.2.2.2))
    (chk (decide (0 ≤ x886))).bind fun _ =>
    let x887 : Int := (IntKind.wrap .u64 (x885 * 2 ^ min (x886).toNat 64))
    let x888 : Int := (Go.bits .or .u64 v.1 x887)
    let x889 : Int := (IntKind.wrap .i64 (v.2.2.2 + (1 : Int)))
    K (x888, (v.2.1, (v.2.2.1, x889)))
  else
    some (v.1)

def E86_0 (K : ((Int × List Int × Int × Int) → Option Int)) (v : List Int) : Option Int :=
  K ((0 : Int), (v, (((v).length : Int), (0 : Int))))

def K86_0 : Nat → ((Int × List Int × Int × Int) → Option Int)
  | 0 => (fun _ => none)
  | n + 1 => (B86_0_3 (K86_0 n))
def fuel86_0 (v : List Int) : Nat := 1000
def F86_0 (v : List Int) : Option Int := E86_0 (K86_0 (fuel86_0 v)) v
noncomputable def k86_0 : List (Known Try.prog E) := []
def s86_0_3 : List (Nat × Pat) := [(3, .keep), (6, (.ros 5)), (7, .keep), (8, .keep)]
noncomputable def L86_0 (n id : Nat) (st : St G) : Option Int := match Nat.beq id 3 with | true => cutK Try.prog s86_0_3 [] c86_0_3.dec (K86_0 n) st | false => none
set_option maxRecDepth 100000 in
theorem e86_0 (n : Nat) (v : List Int) : ev Try.prog E (oracle k86_0) Try.f86.ntmps (fun x => mem x [3]) (L86_0 n) (finA Try.prog E Try.f86.results.toList [] w86_0.alts) 4000 [.code (Try.f86.body.getD .skip)] (argSt (v86_0.enc v)) = E86_0 (K86_0 n) v := by kernel_rfl
set_option maxRecDepth 100000 in
theorem b86_0_3 (n : Nat) (v : Int × List Int × Int × Int) : evCut Try.prog E (oracle k86_0) Try.f86.ntmps (fun x => mem x [3]) (L86_0 n) (finA Try.prog E Try.f86.results.toList [] w86_0.alts) 4000 (todoAt (Try.f86.body.getD .skip) 3) (cutSt s86_0_3 (c86_0_3.enc v)) = B86_0_3 (K86_0 n) v := by kernel_rfl
theorem ok86_0 : FnOk Try.prog E 86 v86_0.enc F86_0 w86_0.enc :=
  fn_known (fn := Try.f86) (c := (Try.f86.body.getD .skip)) Try.func86 (by kernel_rfl) rfl envOk (oracle_ok k86_0) mixed v86_0 F86_0 w86_0 [] [3] 4000 L86_0 (by kernel_rfl)
    (List.forall_mem_cons.2 ⟨⟨_, s86_0_3, c86_0_3.dec, c86_0_3.enc, fun n => (K86_0 n), c86_0_3.ok, fun _ _ => rfl, fun _ => rfl, fun n v _ h => (b86_0_3 n v).trans h⟩, fun _ h => (nomatch h)⟩) (fun v _ h => ⟨fuel86_0 v, (e86_0 _ v).trans h⟩) (fun _ => by kernel_rfl) (fun _ => by kernel_rfl) (fun _ _ => by kernel_rfl)
/- (*chicane/wire.In).Num -/
abbrev A48_0 : Type := (Int × Int × Int × Int) × List Int
abbrev R48_0 : Type := Int × (Int × Int × Int × Int) × List Int
def v48_0 : Pk G ((Int × Int × Int × Int) × List Int) := (Pk.snd (pk (Sh.snd (Sh.cons (Sh.ptr 0 0) Sh.nil)) (Sh.hfix 0 152 (Sh.snd (Sh.cons (Sh.osl 1) (Sh.cons (Sh.int .i64) (Sh.cons (Sh.int .i64) (Sh.cons (Sh.int .i64) (Sh.fst (Sh.cons (Sh.int .i64) Sh.nil))))))) (Sh.fst (Sh.hrow 1 5 Sh.hnil)))))
def w48_0 : Wk G (Int × (Int × Int × Int × Int) × List Int) := (Wk.one [.keep] (pk (Sh.fst (Sh.cons (Sh.int .i64) Sh.nil)) (Sh.hfix 0 152 (Sh.snd (Sh.cons (Sh.osl 1) (Sh.cons (Sh.int .i64) (Sh.cons (Sh.int .i64) (Sh.cons (Sh.int .i64) (Sh.fst (Sh.cons (Sh.int .i64) Sh.nil))))))) (Sh.fst (Sh.hrow 1 5 Sh.hnil)))))
def F48_0 (v : (Int × Int × Int × Int) × List Int) : Option (Int × (Int × Int × Int × Int) × List Int) :=
  (F84_0 ((8 : Int), v)).bind fun r897 =>
  match r897 with
  | .inl r898 =>
    some ((0 : Int), r898)
  | .inr r899 =>
    (chk (decide (r899.1.2 ≠ 0))).bind fun _ =>
    (F86_0 (((r899.2.2).drop r899.1.1).take r899.1.2)).bind fun r900 =>
    let x901 : Int := (IntKind.wrap .i64 r900)
    some (x901, r899.2)

noncomputable def k48_0 : List (Known Try.prog E) := [Known.of envOk [5, 1] [(.ptr 0 0 152 [(.own 1 5), .keep, .keep, .keep, .keep]), .keep] v84_0 F84_0 w84_0 ok84_0, Known.of envOk [7] [(.ros 5)] v86_0 F86_0 w86_0 ok86_0]
noncomputable def L48_0 (n id : Nat) (st : St G) : Option (Int × (Int × Int × Int × Int) × List Int) := none
set_option maxRecDepth 100000 in
theorem e48_0 (n : Nat) (v : (Int × Int × Int × Int) × List Int) : ev Try.prog E (oracle k48_0) Try.f48.ntmps (fun x => mem x []) (L48_0 n) (finA Try.prog E Try.f48.results.toList [(.own 1 5), (.ptr 0 0 152 [(.own 1 5), .keep, .keep, .keep, .keep])] w48_0.alts) 4000 [.code (Try.f48.body.getD .skip)] (argSt (v48_0.enc v)) = F48_0 v := by kernel_rfl
theorem ok48_0 : FnOk Try.prog E 48 v48_0.enc F48_0 w48_0.enc :=
  fn_known (fn := Try.f48) (c := (Try.f48.body.getD .skip)) Try.func48 (by kernel_rfl) rfl envOk (oracle_ok k48_0) mixed v48_0 F48_0 w48_0 [(.own 1 5), (.ptr 0 0 152 [(.own 1 5), .keep, .keep, .keep, .keep])] [] 4000 L48_0 (by kernel_rfl)
    (fun _ h => nomatch h) (fun v _ h => ⟨0, (e48_0 _ v).trans h⟩) (fun _ => by kernel_rfl) (fun _ => by kernel_rfl) (fun _ _ => by kernel_rfl)
/- (*chicane/wire.In).Refuse -/
abbrev A49_0 : Type := Int × (Int × Int × Int × Int) × List Int
abbrev R49_0 : Type := (Int × Int × Int × Int) × List Int
def v49_0 : Pk G (Int × (Int × Int × Int × Int) × List Int) := (pk (Sh.snd (Sh.cons (Sh.ptr 0 0) (Sh.fst (Sh.cons (Sh.int .i64) Sh.nil)))) (Sh.hfix 0 152 (Sh.snd (Sh.cons (Sh.osl 1) (Sh.cons (Sh.int .i64) (Sh.cons (Sh.int .i64) (Sh.cons (Sh.int .i64) (Sh.fst (Sh.cons (Sh.int .i64) Sh.nil))))))) (Sh.fst (Sh.hrow 1 5 Sh.hnil))))
def w49_0 : Wk G ((Int × Int × Int × Int) × List Int) := (Wk.one [] (Pk.snd (pk Sh.nil (Sh.hfix 0 152 (Sh.snd (Sh.cons (Sh.osl 1) (Sh.cons (Sh.int .i64) (Sh.cons (Sh.int .i64) (Sh.cons (Sh.int .i64) (Sh.fst (Sh.cons (Sh.int .i64) Sh.nil))))))) (Sh.fst (Sh.hrow 1 5 Sh.hnil))))))
def F49_0 (v : Int × (Int × Int × Int × Int) × List Int) : Option ((Int × Int × Int × Int) × List Int) :=
  bif (v.1 == (0 : Int)) then
    (F85_0 (((1 : Int), v.2.1.2.1), v.2)).bind fun r907 =>
    some (r907)
  else
    (F85_0 ((v.1, v.2.1.2.1), v.2)).bind fun r908 =>
    some (r908)

noncomputable def k49_0 : List (Known Try.prog E) := [Known.of envOk [5, 1, 1] [(.ptr 0 0 152 [(.own 1 5), .keep, .keep, .keep, .keep]), .keep, .keep] v85_0 F85_0 w85_0 ok85_0]
noncomputable def L49_0 (n id : Nat) (st : St G) : Option ((Int × Int × Int × Int) × List Int) := none
set_option maxRecDepth 100000 in
theorem e49_0 (n : Nat) (v : Int × (Int × Int × Int × Int) × List Int) : ev Try.prog E (oracle k49_0) Try.f49.ntmps (fun x => mem x []) (L49_0 n) (finA Try.prog E Try.f49.results.toList [(.own 1 5), (.ptr 0 0 152 [(.own 1 5), .keep, .keep, .keep, .keep])] w49_0.alts) 4000 [.code (Try.f49.body.getD .skip)] (argSt (v49_0.enc v)) = F49_0 v := by kernel_rfl
theorem ok49_0 : FnOk Try.prog E 49 v49_0.enc F49_0 w49_0.enc :=
  fn_known (fn := Try.f49) (c := (Try.f49.body.getD .skip)) Try.func49 (by kernel_rfl) rfl envOk (oracle_ok k49_0) mixed v49_0 F49_0 w49_0 [(.own 1 5), (.ptr 0 0 152 [(.own 1 5), .keep, .keep, .keep, .keep])] [] 4000 L49_0 (by kernel_rfl)
    (fun _ h => nomatch h) (fun v _ h => ⟨0, (e49_0 _ v).trans h⟩) (fun _ => by kernel_rfl) (fun _ => by kernel_rfl) (fun _ _ => by kernel_rfl)
/- (*chicane/wire.In).End -/
abbrev A50_0 : Type := (Int × Int × Int × Int) × List Int
abbrev R50_0 : Type := (Int × Int) × (Int × Int × Int × Int) × List Int
def v50_0 : Pk G ((Int × Int × Int × Int) × List Int) := (Pk.snd (pk (Sh.snd (Sh.cons (Sh.ptr 0 0) Sh.nil)) (Sh.hfix 0 152 (Sh.snd (Sh.cons (Sh.osl 1) (Sh.cons (Sh.int .i64) (Sh.cons (Sh.int .i64) (Sh.cons (Sh.int .i64) (Sh.fst (Sh.cons (Sh.int .i64) Sh.nil))))))) (Sh.fst (Sh.hrow 1 5 Sh.hnil)))))
def w50_0 : Wk G ((Int × Int) × (Int × Int × Int × Int) × List Int) := (Wk.one [.keep, .keep] (pk (Sh.cons (Sh.int .i64) (Sh.fst (Sh.cons (Sh.int .i64) Sh.nil))) (Sh.hfix 0 152 (Sh.snd (Sh.cons (Sh.osl 1) (Sh.cons (Sh.int .i64) (Sh.cons (Sh.int .i64) (Sh.cons (Sh.int .i64) (Sh.fst (Sh.cons (Sh.int .i64) Sh.nil))))))) (Sh.fst (Sh.hrow 1 5 Sh.hnil)))))
def F50_0 (v : (Int × Int × Int × Int) × List Int) : Option ((Int × Int) × (Int × Int × Int × Int) × List Int) :=
  bif (decide (v.1.1 < ((v.2).length : Int))) then
    (F85_0 (((23 : Int), v.1.1), v)).bind fun r912 =>
    some (r912.1.2.2, r912)
  else
    some (v.1.2.2, v)

noncomputable def k50_0 : List (Known Try.prog E) := [Known.of envOk [5, 1, 1] [(.ptr 0 0 152 [(.own 1 5), .keep, .keep, .keep, .keep]), .keep, .keep] v85_0 F85_0 w85_0 ok85_0]
noncomputable def L50_0 (n id : Nat) (st : St G) : Option ((Int × Int) × (Int × Int × Int × Int) × List Int) := none
set_option maxRecDepth 100000 in
theorem e50_0 (n : Nat) (v : (Int × Int × Int × Int) × List Int) : ev Try.prog E (oracle k50_0) Try.f50.ntmps (fun x => mem x []) (L50_0 n) (finA Try.prog E Try.f50.results.toList [(.own 1 5), (.ptr 0 0 152 [(.own 1 5), .keep, .keep, .keep, .keep])] w50_0.alts) 4000 [.code (Try.f50.body.getD .skip)] (argSt (v50_0.enc v)) = F50_0 v := by kernel_rfl
theorem ok50_0 : FnOk Try.prog E 50 v50_0.enc F50_0 w50_0.enc :=
  fn_known (fn := Try.f50) (c := (Try.f50.body.getD .skip)) Try.func50 (by kernel_rfl) rfl envOk (oracle_ok k50_0) mixed v50_0 F50_0 w50_0 [(.own 1 5), (.ptr 0 0 152 [(.own 1 5), .keep, .keep, .keep, .keep])] [] 4000 L50_0 (by kernel_rfl)
    (fun _ h => nomatch h) (fun v _ h => ⟨0, (e50_0 _ v).trans h⟩) (fun _ => by kernel_rfl) (fun _ => by kernel_rfl) (fun _ _ => by kernel_rfl)
/- (*chicane/telemetry.reader).short -/
abbrev A51_0 : Type := List Int × Int × Int × Int
abbrev R51_0 : Type := Int × List Int × Int × Int × Int
def v51_0 : Pk G (List Int × Int × Int × Int) := (Pk.snd (pk (Sh.snd (Sh.cons (Sh.ptr 0 0) Sh.nil)) (Sh.fst (Sh.hfix 0 113 (Sh.cons (Sh.ros 5) (Sh.cons (Sh.int .i64) (Sh.cons (Sh.int .i64) (Sh.fst (Sh.cons (Sh.int .i64) Sh.nil))))) Sh.hnil))))
def w51_0 : Wk G (Int × List Int × Int × Int × Int) := (Wk.one [.keep] (pk (Sh.fst (Sh.cons (Sh.int .i64) Sh.nil)) (Sh.fst (Sh.hfix 0 113 (Sh.cons (Sh.ros 5) (Sh.cons (Sh.int .i64) (Sh.cons (Sh.int .i64) (Sh.fst (Sh.cons (Sh.int .i64) Sh.nil))))) Sh.hnil))))
def c51_0_5 : Pk G ((Int × Int × Int) × List Int × Int × Int × Int) := (pk (Sh.snd (Sh.cons (Sh.ptr 0 0) (Sh.cons (Sh.int .u64) (Sh.cons (Sh.int .i64) (Sh.fst (Sh.cons (Sh.int .i64) Sh.nil)))))) (Sh.fst (Sh.hfix 0 113 (Sh.cons (Sh.ros 5) (Sh.cons (Sh.int .i64) (Sh.cons (Sh.int .i64) (Sh.fst (Sh.cons (Sh.int .i64) Sh.nil))))) Sh.hnil)))
def B51_0_5 (K : (((Int × Int × Int) × List Int × Int × Int × Int) → Option (Int × List Int × Int × Int × Int))) (v : (Int × Int × Int) × List Int × Int × Int × Int) : Option (Int × List Int × Int × Int × Int) :=
  bif (decide (v.1.2.2 < (10 : Int))) then
    bif (v.2.2.1 == ((v.2.1).length : Int)) then
      some ((0 : Int), (v.2.1, (v.2.2.1, ((20 : Int), ((v.2.1).length : Int)))))
    else
      (rdx v.2.1 v.2.2.1).bind fun (x1024 : Int) =>
      let x1025 : Int := (IntKind.wrap .i64 (v.2.2.1 + (1 : Int)))
      bif (v.1.2.2 == (9 : Int)) then
        bif (decide (x1024 > (1 : Int))) then
          some ((0 : Int), (v.2.1, (x1025, ((24 : Int), v.1.2.1))))
        else
          bif (decide (v.1.2.2 > (0 : Int))) then
            bif (x1024 == (0 : Int)) then
              some ((0 : Int), (v.2.1, (x1025, ((24 : Int), v.1.2.1))))
            else
              let x1026 : Int := (Go.bits .andNot .u8 x1024 (128 : Int))
              let x1027 : Int := (IntKind.wrap .u64 x1026)
              let x1028 : Int := (IntKind.wrap .i64 ((7 : Int) * v.1.2.2))
              (chk (decide (0 ≤ x1028))).bind fun _ =>
              let x1029 : Int := (IntKind.wrap .u64 (x1027 * 2 ^ min (x1028).toNat 64))
              let x1030 : Int := (Go.bits .or .u64 v.1.1 x1029)
              bif (decide (x1024 < (128 : Int))) then
                let x1031 : Int := (Int.fdiv x1030 (2 ^ 1))
                let x1032 : Int := (IntKind.wrap .i64 x1031)
                let x1033 : Int := (Go.bits .and .u64 x1030 (1 : Int))
                let x1034 : Int := (IntKind.wrap .i64 x1033)
                let x1035 : Int := (IntKind.wrap .i64 (0 - x1034))
                let x1036 : Int := (Go.bits .xor .i64 x1032 x1035)
                some (x1036, (v.2.1, (x1025, v.2.2.2)))
              else
                let x1037 : Int := (IntKind.wrap .i64 (v.1.2.2 + (1 : Int)))
                K ((x1030, (v.1.2.1, x1037)), (v.2.1, (x1025, v.2.2.2)))
          else
            let x1038 : Int := (Go.bits .andNot .u8 x1024 (128 : Int))
            let x1039 : Int := (IntKind.wrap .u64 x1038)
            let x1040 : Int := (IntKind.wrap .i64 ((7 : Int) * v.1.2.2))
            (chk (decide (0 ≤ x1040))).bind fun _ =>
            let x1041 : Int := (IntKind.wrap .u64 (x1039 * 2 ^ min (x1040).toNat 64))
            let x1042 : Int := (Go.bits .or .u64 v.1.1 x1041)
            bif (decide (x1024 < (128 : Int))) then
              let x1043 : Int := (Int.fdiv x1042 (2 ^ 1))
              let x1044 : Int := (IntKind.wrap .i64 x1043)
              let x1045 : Int := (Go.bits .and .u64 x1042 (1 : Int))
              let x1046 : Int := (IntKind.wrap .i64 x1045)
              let x1047 : Int := (IntKind.wrap .i64 (0 - x1046))
              let x1048 : Int := (Go.bits .xor .i64 x1044 x1047)
              some (x1048, (v.2.1, (x1025, v.2.2.2)))
            else
              let x1049 : Int := (IntKind.wrap .i64 (v.1.2.2 + (1 : Int)))
              K ((x1042, (v.1.2.1, x1049)), (v.2.1, (x1025, v.2.2.2)))
      else
        bif (decide (v.1.2.2 > (0 : Int))) then
          bif (x1024 == (0 : Int)) then
            some ((0 : Int), (v.2.1, (x1025, ((24 : Int), v.1.2.1))))
          else
            let x1050 : Int := (Go.bits .andNot .u8 x1024 (128 : Int))
            let x1051 : Int := (IntKind.wrap .u64 x1050)
            let x1052 : Int := (IntKind.wrap .i64 ((7 : Int) * v.1.2.2))
            (chk (decide (0 ≤ x1052))).bind fun _ =>
            let x1053 : Int := (IntKind.wrap .u64 (x1051 * 2 ^ min (x1052).toNat 64))
            let x1054 : Int := (Go.bits .or .u64 v.1.1 x1053)
            bif (decide (x1024 < (128 : Int))) then
              let x1055 : Int := (Int.fdiv x1054 (2 ^ 1))
              let x1056 : Int := (IntKind.wrap .i64 x1055)
              let x1057 : Int := (Go.bits .and .u64 x1054 (1 : Int))
              let x1058 : Int := (IntKind.wrap .i64 x1057)
              let x1059 : Int := (IntKind.wrap .i64 (0 - x1058))
              let x1060 : Int := (Go.bits .xor .i64 x1056 x1059)
              some (x1060, (v.2.1, (x1025, v.2.2.2)))
            else
              let x1061 : Int := (IntKind.wrap .i64 (v.1.2.2 + (1 : Int)))
              K ((x1054, (v.1.2.1, x1061)), (v.2.1, (x1025, v.2.2.2)))
        else
          let x1062 : Int := (Go.bits .andNot .u8 x1024 (128 : Int))
          let x1063 : Int := (IntKind.wrap .u64 x1062)
          let x1064 : Int := (IntKind.wrap .i64 ((7 : Int) * v.1.2.2))
          (chk (decide (0 ≤ x1064))).bind fun _ =>
          let x1065 : Int := (IntKind.wrap .u64 (x1063 * 2 ^ min (x1064).toNat 64))
          let x1066 : Int := (Go.bits .or .u64 v.1.1 x1065)
          bif (decide (x1024 < (128 : Int))) then
            let x1067 : Int := (Int.fdiv x1066 (2 ^ 1))
            let x1068 : Int := (IntKind.wrap .i64 x1067)
            let x1069 : Int := (Go.bits .and .u64 x1066 (1 : Int))
            let x1070 : Int := (IntKind.wrap .i64 x1069)
            let x1071 : Int := (IntKind.wrap .i64 (0 - x1070))
            let x1072 : Int := (Go.bits .xor .i64 x1068 x1071)
            some (x1072, (v.2.1, (x1025, v.2.2.2)))
          else
            let x1073 : Int := (IntKind.wrap .i64 (v.1.2.2 + (1 : Int)))
            K ((x1066, (v.1.2.1, x1073)), (v.2.1, (x1025, v.2.2.2)))
  else
    some ((0 : Int), (v.2.1, (v.2.2.1, ((24 : Int), v.1.2.1))))

def E51_0 (K : (((Int × Int × Int) × List Int × Int × Int × Int) → Option (Int × List Int × Int × Int × Int))) (v : List Int × Int × Int × Int) : Option (Int × List Int × Int × Int × Int) :=
  bif (v.2.2.1 != (0 : Int)) then
    some ((0 : Int), v)
  else
    K (((0 : Int), (v.2.1, (0 : Int))), v)

def K51_0 : Nat → (((Int × Int × Int) × List Int × Int × Int × Int) → Option (Int × List Int × Int × Int × Int))
  | 0 => (fun _ => none)
  | n + 1 => (B51_0_5 (K51_0 n))
def fuel51_0 (v : List Int × Int × Int × Int) : Nat := 1000
def F51_0 (v : List Int × Int × Int × Int) : Option (Int × List Int × Int × Int × Int) := E51_0 (K51_0 (fuel51_0 v)) v
noncomputable def k51_0 : List (Known Try.prog E) := []
def s51_0_5 : List (Nat × Pat) := [(0, (.ptr 0 0 113 [])), (3, .keep), (4, .keep), (16, .keep)]
noncomputable def L51_0 (n id : Nat) (st : St G) : Option (Int × List Int × Int × Int × Int) := match Nat.beq id 5 with | true => cutK Try.prog s51_0_5 [(.ptr 0 0 113 [(.ros 5), .keep, .keep, .keep])] c51_0_5.dec (K51_0 n) st | false => none
set_option maxRecDepth 100000 in
theorem e51_0 (n : Nat) (v : List Int × Int × Int × Int) : ev Try.prog E (oracle k51_0) Try.f51.ntmps (fun x => mem x [5]) (L51_0 n) (finA Try.prog E Try.f51.results.toList [(.ptr 0 0 113 [(.ros 5), .keep, .keep, .keep])] w51_0.alts) 4000 [.code (Try.f51.body.getD .skip)] (argSt (v51_0.enc v)) = E51_0 (K51_0 n) v := by kernel_rfl
set_option maxRecDepth 100000 in
theorem b51_0_5 (n : Nat) (v : (Int × Int × Int) × List Int × Int × Int × Int) : evCut Try.prog E (oracle k51_0) Try.f51.ntmps (fun x => mem x [5]) (L51_0 n) (finA Try.prog E Try.f51.results.toList [(.ptr 0 0 113 [(.ros 5), .keep, .keep, .keep])] w51_0.alts) 4000 (todoAt (Try.f51.body.getD .skip) 5) (cutSt s51_0_5 (c51_0_5.enc v)) = B51_0_5 (K51_0 n) v := by kernel_rfl
theorem ok51_0 : FnOk Try.prog E 51 v51_0.enc F51_0 w51_0.enc :=
  fn_known (fn := Try.f51) (c := (Try.f51.body.getD .skip)) Try.func51 (by kernel_rfl) rfl envOk (oracle_ok k51_0) mixed v51_0 F51_0 w51_0 [(.ptr 0 0 113 [(.ros 5), .keep, .keep, .keep])] [5] 4000 L51_0 (by kernel_rfl)
    (List.forall_mem_cons.2 ⟨⟨_, s51_0_5, c51_0_5.dec, c51_0_5.enc, fun n => (K51_0 n), c51_0_5.ok, fun _ _ => rfl, fun _ => rfl, fun n v _ h => (b51_0_5 n v).trans h⟩, fun _ h => (nomatch h)⟩) (fun v _ h => ⟨fuel51_0 v, (e51_0 _ v).trans h⟩) (fun _ => by kernel_rfl) (fun _ => by kernel_rfl) (fun _ _ => by kernel_rfl)
/- chicane/telemetry.Unpack -/
abbrev A23_0 : Type := List Int
abbrev R23_0 : Type := (Int × Int) × List (Int × Int × Int × Int × Int × Int × Int × Int)
def v23_0 : Pk G (List Int) := (Pk.fst (pk (Sh.fst (Sh.cons (Sh.ros 5) Sh.nil)) Sh.hnil))
def w23_0 : Wk G ((Int × Int) × List (Int × Int × Int × Int × Int × Int × Int × Int)) := (Wk.one [(.own 0 56), .keep, .keep] (pk (Sh.snd (Sh.cons (Sh.osl 0) (Sh.cons (Sh.int .i64) (Sh.fst (Sh.cons (Sh.int .i64) Sh.nil))))) (Sh.fst (Sh.hrow 0 56 Sh.hnil))))
def c23_0_12 : Pk G ((List Int × Int × Int) × (List (Int × Int × Int × Int × Int × Int × Int × Int)) × List Int × Int × Int × Int) := (pk (Sh.cons (Sh.ros 5) (Sh.cons (Sh.int .i64) (Sh.snd (Sh.cons (Sh.ptr 0 0) (Sh.snd (Sh.cons (Sh.osl 1) (Sh.fst (Sh.cons (Sh.int .i64) Sh.nil)))))))) (Sh.hrow 1 56 (Sh.fst (Sh.hfix 0 113 (Sh.cons (Sh.ros 5) (Sh.cons (Sh.int .i64) (Sh.cons (Sh.int .i64) (Sh.fst (Sh.cons (Sh.int .i64) Sh.nil))))) Sh.hnil))))
def c23_0_16 : Pk G ((List Int × Int × Int × Int × Int × Int) × (List (Int × Int × Int × Int × Int × Int × Int × Int)) × List Int × Int × Int × Int) := (pk (Sh.cons (Sh.ros 5) (Sh.cons (Sh.int .i64) (Sh.snd (Sh.cons (Sh.ptr 0 0) (Sh.snd (Sh.cons (Sh.osl 1) (Sh.cons (Sh.int .i64) (Sh.cons (Sh.int .i64) (Sh.cons (Sh.int .i64) (Sh.fst (Sh.cons (Sh.int .i64) Sh.nil))))))))))) (Sh.hrow 1 56 (Sh.fst (Sh.hfix 0 113 (Sh.cons (Sh.ros 5) (Sh.cons (Sh.int .i64) (Sh.cons (Sh.int .i64) (Sh.fst (Sh.cons (Sh.int .i64) Sh.nil))))) Sh.hnil))))
def B23_0_12 (K : (((List Int × Int × Int) × (List (Int × Int × Int × Int × Int × Int × Int × Int)) × List Int × Int × Int × Int) → Option ((Int × Int) × List (Int × Int × Int × Int × Int × Int × Int × Int))) × (((List Int × Int × Int × Int × Int × Int) × (List (Int × Int × Int × Int × Int × Int × Int × Int)) × List Int × Int × Int × Int) → Option ((Int × Int) × List (Int × Int × Int × Int × Int × Int × Int × Int)))) (v : (List Int × Int × Int) × (List (Int × Int × Int × Int × Int × Int × Int × Int)) × List Int × Int × Int × Int) : Option ((Int × Int) × List (Int × Int × Int × Int × Int × Int × Int × Int)) :=
  bif (decide (v.1.2.2 < (8 : Int))) then
    K.2 ((v.1.1, (v.1.2.1, (v.1.2.2, ((0 : Int), ((0 : Int), v.1.2.2))))), v.2)
  else
    bif (v.2.2.2.2.1 != (0 : Int)) then
      some (v.2.2.2.2, ([] : List (Int × Int × Int × Int × Int × Int × Int × Int)))
    else
      bif (decide (v.2.2.2.1 < ((v.1.1).length : Int))) then
        some (((23 : Int), v.2.2.2.1), ([] : List (Int × Int × Int × Int × Int × Int × Int × Int)))
      else
        some (((0 : Int), (0 : Int)), v.2.1)

def B23_0_16 (K : (((List Int × Int × Int) × (List (Int × Int × Int × Int × Int × Int × Int × Int)) × List Int × Int × Int × Int) → Option ((Int × Int) × List (Int × Int × Int × Int × Int × Int × Int × Int))) × (((List Int × Int × Int × Int × Int × Int) × (List (Int × Int × Int × Int × Int × Int × Int × Int)) × List Int × Int × Int × Int) → Option ((Int × Int) × List (Int × Int × Int × Int × Int × Int × Int × Int)))) (v : (List Int × Int × Int × Int × Int × Int) × (List (Int × Int × Int × Int × Int × Int × Int × Int)) × List Int × Int × Int × Int) : Option ((Int × Int) × List (Int × Int × Int × Int × Int × Int × Int × Int)) :=
  bif (decide (v.1.2.2.2.2.1 < v.1.2.1)) then
    bif (v.2.2.2.2.1 == (0 : Int)) then
      (F51_0 v.2.2).bind fun r1162 =>
      let x1163 : Int := (IntKind.wrap .i64 (v.1.2.2.2.1 + r1162.1))
      bif (decide (v.1.2.2.2.2.1 < ((v.2.1).length : Int))) then
        (idx v.1.2.2.2.2.1 (v.2.1).length).bind fun (x1164 : Nat) =>
        (idx v.1.2.2.1 8).bind fun (x1165 : Nat) =>
        ((v.2.1)[x1164]?).bind fun (x1166 : Int × Int × Int × Int × Int × Int × Int × Int) =>
        let x1167 : List (Int × Int × Int × Int × Int × Int × Int × Int) := (v.2.1).set x1164 ((if x1165 = 0 then x1163 else x1166.1), ((if x1165 = 1 then x1163 else x1166.2.1), ((if x1165 = 2 then x1163 else x1166.2.2.1), ((if x1165 = 3 then x1163 else x1166.2.2.2.1), ((if x1165 = 4 then x1163 else x1166.2.2.2.2.1), ((if x1165 = 5 then x1163 else x1166.2.2.2.2.2.1), ((if x1165 = 6 then x1163 else x1166.2.2.2.2.2.2.1), (if x1165 = 7 then x1163 else x1166.2.2.2.2.2.2.2))))))))
        let x1168 : Int := (IntKind.wrap .i64 (v.1.2.2.2.2.1 + (1 : Int)))
        K.2 ((v.1.1, (v.1.2.1, (v.1.2.2.1, (x1163, (x1168, v.1.2.2.2.2.2))))), (x1167, r1162.2))
      else
        let x1169 : Int := (IntKind.wrap .i64 (v.1.2.2.2.2.1 + (1 : Int)))
        K.2 ((v.1.1, (v.1.2.1, (v.1.2.2.1, (x1163, (x1169, v.1.2.2.2.2.2))))), (v.2.1, r1162.2))
    else
      let x1170 : Int := (IntKind.wrap .i64 (v.1.2.2.2.2.2 + (1 : Int)))
      K.1 ((v.1.1, (v.1.2.1, x1170)), v.2)
  else
    let x1171 : Int := (IntKind.wrap .i64 (v.1.2.2.2.2.2 + (1 : Int)))
    K.1 ((v.1.1, (v.1.2.1, x1171)), v.2)

def E23_0 (K : (((List Int × Int × Int) × (List (Int × Int × Int × Int × Int × Int × Int × Int)) × List Int × Int × Int × Int) → Option ((Int × Int) × List (Int × Int × Int × Int × Int × Int × Int × Int))) × (((List Int × Int × Int × Int × Int × Int) × (List (Int × Int × Int × Int × Int × Int × Int × Int)) × List Int × Int × Int × Int) → Option ((Int × Int) × List (Int × Int × Int × Int × Int × Int × Int × Int)))) (v : List Int) : Option ((Int × Int) × List (Int × Int × Int × Int × Int × Int × Int × Int)) :=
  let x1149 : Int := (if (12 : Int) < ((v).length : Int) then (12 : Int) else ((v).length : Int))
  (cutx v (0 : Int) x1149).bind fun (x1150 : List Int) =>
  (F46_0 x1150).bind fun r1151 =>
  (F47_0 (sc0, r1151)).bind fun r1152 =>
  (F48_0 r1152).bind fun r1153 =>
  bif (decide (r1153.1 < (0 : Int))) then
    (F49_0 ((22 : Int), r1153.2)).bind fun r1154 =>
    (F50_0 r1154).bind fun r1155 =>
    bif (r1155.1.1 != (0 : Int)) then
      some (r1155.1, ([] : List (Int × Int × Int × Int × Int × Int × Int × Int)))
    else
      let x1156 : Int := (if ((v).length : Int) < r1153.1 then ((v).length : Int) else r1153.1)
      (chk (decide (0 ≤ x1156 ∧ x1156 ≤ x1156 ∧ x1156 * 64 ≤ 140737488355328 ∧ x1156 ≤ 9223372036854775807))).bind fun _ =>
      K.1 ((v, (r1153.1, (0 : Int))), ((List.replicate (x1156).toNat (((0 : Int), ((0 : Int), ((0 : Int), ((0 : Int), ((0 : Int), ((0 : Int), ((0 : Int), (0 : Int)))))))) : Int × Int × Int × Int × Int × Int × Int × Int)), (v, ((12 : Int), ((0 : Int), (0 : Int))))))
  else
    bif (decide (r1153.1 > (16777216 : Int))) then
      (F49_0 ((22 : Int), r1153.2)).bind fun r1157 =>
      (F50_0 r1157).bind fun r1158 =>
      bif (r1158.1.1 != (0 : Int)) then
        some (r1158.1, ([] : List (Int × Int × Int × Int × Int × Int × Int × Int)))
      else
        let x1159 : Int := (if ((v).length : Int) < r1153.1 then ((v).length : Int) else r1153.1)
        (chk (decide (0 ≤ x1159 ∧ x1159 ≤ x1159 ∧ x1159 * 64 ≤ 140737488355328 ∧ x1159 ≤ 9223372036854775807))).bind fun _ =>
        K.1 ((v, (r1153.1, (0 : Int))), ((List.replicate (x1159).toNat (((0 : Int), ((0 : Int), ((0 : Int), ((0 : Int), ((0 : Int), ((0 : Int), ((0 : Int), (0 : Int)))))))) : Int × Int × Int × Int × Int × Int × Int × Int)), (v, ((12 : Int), ((0 : Int), (0 : Int))))))
    else
      (F50_0 r1153.2).bind fun r1160 =>
      bif (r1160.1.1 != (0 : Int)) then
        some (r1160.1, ([] : List (Int × Int × Int × Int × Int × Int × Int × Int)))
      else
        let x1161 : Int := (if ((v).length : Int) < r1153.1 then ((v).length : Int) else r1153.1)
        (chk (decide (0 ≤ x1161 ∧ x1161 ≤ x1161 ∧ x1161 * 64 ≤ 140737488355328 ∧ x1161 ≤ 9223372036854775807))).bind fun _ =>
        K.1 ((v, (r1153.1, (0 : Int))), ((List.replicate (x1161).toNat (((0 : Int), ((0 : Int), ((0 : Int), ((0 : Int), ((0 : Int), ((0 : Int), ((0 : Int), (0 : Int)))))))) : Int × Int × Int × Int × Int × Int × Int × Int)), (v, ((12 : Int), ((0 : Int), (0 : Int))))))

def K23_0 : Nat → (((List Int × Int × Int) × (List (Int × Int × Int × Int × Int × Int × Int × Int)) × List Int × Int × Int × Int) → Option ((Int × Int) × List (Int × Int × Int × Int × Int × Int × Int × Int))) × (((List Int × Int × Int × Int × Int × Int) × (List (Int × Int × Int × Int × Int × Int × Int × Int)) × List Int × Int × Int × Int) → Option ((Int × Int) × List (Int × Int × Int × Int × Int × Int × Int × Int)))
  | 0 => (fun _ => none, fun _ => none)
  | n + 1 => (B23_0_12 (K23_0 n), B23_0_16 (K23_0 n))
def fuel23_0 (v : List Int) : Nat := 8000
def F23_0 (v : List Int) : Option ((Int × Int) × List (Int × Int × Int × Int × Int × Int × Int × Int)) := E23_0 (K23_0 (fuel23_0 v)) v
noncomputable def k23_0 : List (Known Try.prog E) := [Known.of envOk [7] [(.ros 5)] v46_0 F46_0 w46_0 ok46_0, Known.of envOk [5, 3] [(.ptr 0 0 152 [(.own 1 5), .keep, .keep, .keep, .keep]), .keep] v47_0 F47_0 w47_0 ok47_0, Known.of envOk [5] [(.ptr 0 0 152 [(.own 1 5), .keep, .keep, .keep, .keep])] v48_0 F48_0 w48_0 ok48_0, Known.of envOk [5, 1] [(.ptr 0 0 152 [(.own 1 5), .keep, .keep, .keep, .keep]), .keep] v49_0 F49_0 w49_0 ok49_0, Known.of envOk [5] [(.ptr 0 0 152 [(.own 1 5), .keep, .keep, .keep, .keep])] v50_0 F50_0 w50_0 ok50_0, Known.of envOk [5] [(.ptr 0 0 113 [(.ros 5), .keep, .keep, .keep])] v51_0 F51_0 w51_0 ok51_0]
def s23_0_16 : List (Nat × Pat) := [(0, (.ros 5)), (6, .keep), (9, (.ptr 0 0 113 [(.ros 5), .keep, .keep, .keep])), (10, (.own 1 56)), (11, .keep), (12, .keep), (13, .keep), (49, .keep)]
def s23_0_12 : List (Nat × Pat) := [(0, (.ros 5)), (6, .keep), (9, (.ptr 0 0 113 [(.ros 5), .keep, .keep, .keep])), (10, (.own 1 56)), (49, .keep)]
noncomputable def L23_0 (n id : Nat) (st : St G) : Option ((Int × Int) × List (Int × Int × Int × Int × Int × Int × Int × Int)) := match Nat.beq id 12 with | true => cutK Try.prog s23_0_12 [] c23_0_12.dec (K23_0 n).1 st | false => match Nat.beq id 16 with | true => cutK Try.prog s23_0_16 [] c23_0_16.dec (K23_0 n).2 st | false => none
set_option maxRecDepth 100000 in
theorem e23_0 (n : Nat) (v : List Int) : ev Try.prog E (oracle k23_0) Try.f23.ntmps (fun x => mem x [12, 16]) (L23_0 n) (finA Try.prog E Try.f23.results.toList [] w23_0.alts) 4000 [.code (Try.f23.body.getD .skip)] (argSt (v23_0.enc v)) = E23_0 (K23_0 n) v := by kernel_rfl
set_option maxRecDepth 100000 in
theorem b23_0_12 (n : Nat) (v : (List Int × Int × Int) × (List (Int × Int × Int × Int × Int × Int × Int × Int)) × List Int × Int × Int × Int) : evCut Try.prog E (oracle k23_0) Try.f23.ntmps (fun x => mem x [12, 16]) (L23_0 n) (finA Try.prog E Try.f23.results.toList [] w23_0.alts) 4000 (todoAt (Try.f23.body.getD .skip) 12) (cutSt s23_0_12 (c23_0_12.enc v)) = B23_0_12 (K23_0 n) v := by kernel_rfl
set_option maxRecDepth 100000 in
theorem b23_0_16 (n : Nat) (v : (List Int × Int × Int × Int × Int × Int) × (List (Int × Int × Int × Int × Int × Int × Int × Int)) × List Int × Int × Int × Int) : evCut Try.prog E (oracle k23_0) Try.f23.ntmps (fun x => mem x [12, 16]) (L23_0 n) (finA Try.prog E Try.f23.results.toList [] w23_0.alts) 4000 (todoAt (Try.f23.body.getD .skip) 16) (cutSt s23_0_16 (c23_0_16.enc v)) = B23_0_16 (K23_0 n) v := by kernel_rfl
theorem ok23_0 : FnOk Try.prog E 23 v23_0.enc F23_0 w23_0.enc :=
  fn_known (fn := Try.f23) (c := (Try.f23.body.getD .skip)) Try.func23 (by kernel_rfl) rfl envOk (oracle_ok k23_0) mixed v23_0 F23_0 w23_0 [] [12, 16] 4000 L23_0 (by kernel_rfl)
    (List.forall_mem_cons.2 ⟨⟨_, s23_0_12, c23_0_12.dec, c23_0_12.enc, fun n => (K23_0 n).1, c23_0_12.ok, fun _ _ => rfl, fun _ => rfl, fun n v _ h => (b23_0_12 n v).trans h⟩, List.forall_mem_cons.2 ⟨⟨_, s23_0_16, c23_0_16.dec, c23_0_16.enc, fun n => (K23_0 n).2, c23_0_16.ok, fun _ _ => rfl, fun _ => rfl, fun n v _ h => (b23_0_16 n v).trans h⟩, fun _ h => (nomatch h)⟩⟩) (fun v _ h => ⟨fuel23_0 v, (e23_0 _ v).trans h⟩) (fun _ => by kernel_rfl) (fun _ => by kernel_rfl) (fun _ _ => by kernel_rfl)
/- chicane/chicanelaw41.Same -/
abbrev A24_0 : Type := (List (Int × Int × Int × Int × Int × Int × Int × Int)) × List (Int × Int × Int × Int × Int × Int × Int × Int)
abbrev R24_0 : Type := Bool
def v24_0 : Pk G ((List (Int × Int × Int × Int × Int × Int × Int × Int)) × List (Int × Int × Int × Int × Int × Int × Int × Int)) := (Pk.fst (pk (Sh.cons (Sh.ros 56) (Sh.fst (Sh.cons (Sh.ros 55) Sh.nil))) Sh.hnil))
def w24_0 : Wk G Bool := (Wk.one [.keep] (Pk.fst (pk (Sh.fst (Sh.cons Sh.bool Sh.nil)) Sh.hnil)))
def c24_0_4 : Pk G ((List (Int × Int × Int × Int × Int × Int × Int × Int)) × (List (Int × Int × Int × Int × Int × Int × Int × Int)) × Int) := (Pk.fst (pk (Sh.cons (Sh.ros 56) (Sh.cons (Sh.ros 55) (Sh.fst (Sh.cons (Sh.int .i64) Sh.nil)))) Sh.hnil))
def B24_0_4 (K : (((List (Int × Int × Int × Int × Int × Int × Int × Int)) × (List (Int × Int × Int × Int × Int × Int × Int × Int)) × Int) → Option Bool)) (v : (List (Int × Int × Int × Int × Int × Int × Int × Int)) × (List (Int × Int × Int × Int × Int × Int × Int × Int)) × Int) : Option Bool :=
  bif (decide (v.2.2 < ((v.1).length : Int))) then
    (rdx v.1 v.2.2).bind fun (x1184 : Int × Int × Int × Int × Int × Int × Int × Int) =>
    (rdx v.2.1 v.2.2).bind fun (x1185 : Int × Int × Int × Int × Int × Int × Int × Int) =>
    let x1186 : Bool := ((x1184.1 == x1185.1) && ((x1184.2.1 == x1185.2.1) && ((x1184.2.2.1 == x1185.2.2.1) && ((x1184.2.2.2.1 == x1185.2.2.2.1) && ((x1184.2.2.2.2.1 == x1185.2.2.2.2.1) && ((x1184.2.2.2.2.2.1 == x1185.2.2.2.2.2.1) && ((x1184.2.2.2.2.2.2.1 == x1185.2.2.2.2.2.2.1) && ((x1184.2.2.2.2.2.2.2 == x1185.2.2.2.2.2.2.2) && true))))))))
    bif (!x1186) then
      some (false)
    else
      let x1187 : Int := (IntKind.wrap .i64 (v.2.2 + (1 : Int)))
      K (v.1, (v.2.1, x1187))
  else
    some (true)

def E24_0 (K : (((List (Int × Int × Int × Int × Int × Int × Int × Int)) × (List (Int × Int × Int × Int × Int × Int × Int × Int)) × Int) → Option Bool)) (v : (List (Int × Int × Int × Int × Int × Int × Int × Int)) × List (Int × Int × Int × Int × Int × Int × Int × Int)) : Option Bool :=
  bif (((v.1).length : Int) != ((v.2).length : Int)) then
    some (false)
  else
    K (v.1, (v.2, (0 : Int)))

def K24_0 : Nat → (((List (Int × Int × Int × Int × Int × Int × Int × Int)) × (List (Int × Int × Int × Int × Int × Int × Int × Int)) × Int) → Option Bool)
  | 0 => (fun _ => none)
  | n + 1 => (B24_0_4 (K24_0 n))
def fuel24_0 (v : (List (Int × Int × Int × Int × Int × Int × Int × Int)) × List (Int × Int × Int × Int × Int × Int × Int × Int)) : Nat := 1000
def F24_0 (v : (List (Int × Int × Int × Int × Int × Int × Int × Int)) × List (Int × Int × Int × Int × Int × Int × Int × Int)) : Option Bool := E24_0 (K24_0 (fuel24_0 v)) v
noncomputable def k24_0 : List (Known Try.prog E) := []
def s24_0_4 : List (Nat × Pat) := [(0, (.ros 56)), (1, (.ros 55)), (5, .keep)]
noncomputable def L24_0 (n id : Nat) (st : St G) : Option Bool := match Nat.beq id 4 with | true => cutK Try.prog s24_0_4 [] c24_0_4.dec (K24_0 n) st | false => none
set_option maxRecDepth 100000 in
theorem e24_0 (n : Nat) (v : (List (Int × Int × Int × Int × Int × Int × Int × Int)) × List (Int × Int × Int × Int × Int × Int × Int × Int)) : ev Try.prog E (oracle k24_0) Try.f24.ntmps (fun x => mem x [4]) (L24_0 n) (finA Try.prog E Try.f24.results.toList [] w24_0.alts) 4000 [.code (Try.f24.body.getD .skip)] (argSt (v24_0.enc v)) = E24_0 (K24_0 n) v := by kernel_rfl
set_option maxRecDepth 100000 in
theorem b24_0_4 (n : Nat) (v : (List (Int × Int × Int × Int × Int × Int × Int × Int)) × (List (Int × Int × Int × Int × Int × Int × Int × Int)) × Int) : evCut Try.prog E (oracle k24_0) Try.f24.ntmps (fun x => mem x [4]) (L24_0 n) (finA Try.prog E Try.f24.results.toList [] w24_0.alts) 4000 (todoAt (Try.f24.body.getD .skip) 4) (cutSt s24_0_4 (c24_0_4.enc v)) = B24_0_4 (K24_0 n) v := by kernel_rfl
theorem ok24_0 : FnOk Try.prog E 24 v24_0.enc F24_0 w24_0.enc :=
  fn_known (fn := Try.f24) (c := (Try.f24.body.getD .skip)) Try.func24 (by kernel_rfl) rfl envOk (oracle_ok k24_0) mixed v24_0 F24_0 w24_0 [] [4] 4000 L24_0 (by kernel_rfl)
    (List.forall_mem_cons.2 ⟨⟨_, s24_0_4, c24_0_4.dec, c24_0_4.enc, fun n => (K24_0 n), c24_0_4.ok, fun _ _ => rfl, fun _ => rfl, fun n v _ h => (b24_0_4 n v).trans h⟩, fun _ h => (nomatch h)⟩) (fun v _ h => ⟨fuel24_0 v, (e24_0 _ v).trans h⟩) (fun _ => by kernel_rfl) (fun _ => by kernel_rfl) (fun _ _ => by kernel_rfl)
/- chicane/chicanelaw41.TelemetryBack -/
abbrev A8_0 : Type := (List (Int × Int × Int × Int × Int × Int × Int × Int)) × List Int
abbrev R8_0 : Type := Bool
def v8_0 : Pk G ((List (Int × Int × Int × Int × Int × Int × Int × Int)) × List Int) := (Pk.fst (pk (Sh.cons (Sh.ros 56) (Sh.fst (Sh.cons (Sh.ros 5) Sh.nil))) Sh.hnil))
def w8_0 : Wk G Bool := (Wk.one [.keep] (Pk.fst (pk (Sh.fst (Sh.cons Sh.bool Sh.nil)) Sh.hnil)))
def F8_0 (v : (List (Int × Int × Int × Int × Int × Int × Int × Int)) × List Int) : Option Bool :=
  bif (decide (((v.1).length : Int) > (200 : Int))) then
    some (true)
  else
    bif (decide (((v.2).length : Int) > (5000 : Int))) then
      some (true)
    else
      (F18_0 v.1).bind fun r1205 =>
      (F23_0 r1205).bind fun r1206 =>
      bif (r1206.1.1 != (0 : Int)) then
        some (false)
      else
        (F20_0 v.1).bind fun r1207 =>
        (F24_0 (r1206.2, r1207)).bind fun r1208 =>
        bif (!r1208) then
          some (false)
        else
          (F23_0 v.2).bind fun r1209 =>
          bif (r1209.1.1 != (0 : Int)) then
            bif (((r1209.2).length : Int) == (0 : Int)) then
              bif (decide (r1209.1.2 ≥ (0 : Int))) then
                bif (decide (r1209.1.2 ≤ ((v.2).length : Int))) then
                  (F17_0 ()).bind fun r1210 =>
                  some (r1210)
                else
                  some (false)
              else
                some (false)
            else
              some (false)
          else
            (F18_0 r1209.2).bind fun r1211 =>
            (strOf (E.enc 5) r1211).bind fun (x1212 : List UInt8) =>
            (strOf (E.enc 5) v.2).bind fun (x1213 : List UInt8) =>
            bif ((⟨x1212.toArray⟩ : ByteArray) == (⟨x1213.toArray⟩ : ByteArray)) then
              (F17_0 ()).bind fun r1214 =>
              some (r1214)
            else
              some (false)

noncomputable def k8_0 : List (Known Try.prog E) := [Known.of envOk [7] [(.ros 56)] v18_0 F18_0 w18_0 ok18_0, Known.of envOk [7] [(.ros 5)] v23_0 F23_0 w23_0 ok23_0, Known.of envOk [7] [(.ros 56)] v20_0 F20_0 w20_0 ok20_0, Known.of envOk [7, 7] [(.ros 56), (.ros 55)] v24_0 F24_0 w24_0 ok24_0, Known.of envOk [] [] v17_0 F17_0 w17_0 ok17_0]
noncomputable def L8_0 (n id : Nat) (st : St G) : Option Bool := none
set_option maxRecDepth 100000 in
theorem e8_0 (n : Nat) (v : (List (Int × Int × Int × Int × Int × Int × Int × Int)) × List Int) : ev Try.prog E (oracle k8_0) Try.f8.ntmps (fun x => mem x []) (L8_0 n) (finA Try.prog E Try.f8.results.toList [] w8_0.alts) 4000 [.code (Try.f8.body.getD .skip)] (argSt (v8_0.enc v)) = F8_0 v := by kernel_rfl
theorem ok8_0 : FnOk Try.prog E 8 v8_0.enc F8_0 w8_0.enc :=
  fn_known (fn := Try.f8) (c := (Try.f8.body.getD .skip)) Try.func8 (by kernel_rfl) rfl envOk (oracle_ok k8_0) mixed v8_0 F8_0 w8_0 [] [] 4000 L8_0 (by kernel_rfl)
    (fun _ h => nomatch h) (fun v _ h => ⟨0, (e8_0 _ v).trans h⟩) (fun _ => by kernel_rfl) (fun _ => by kernel_rfl) (fun _ _ => by kernel_rfl)
def Dom6_0 (v : List (Int × Int × Int × Int × Int × Int × Int × Int)) : Prop := (((v).length ≤ maxLen ∧ ∀ x ∈ v, (Lit.int .i64 x.1).wf = true ∧ (Lit.int .i64 x.2.1).wf = true ∧ (Lit.int .i64 x.2.2.1).wf = true ∧ (Lit.int .i64 x.2.2.2.1).wf = true ∧ (Lit.int .i64 x.2.2.2.2.1).wf = true ∧ (Lit.int .i64 x.2.2.2.2.2.1).wf = true ∧ (Lit.int .i64 x.2.2.2.2.2.2.1).wf = true ∧ (Lit.int .i64 x.2.2.2.2.2.2.2).wf = true))
def Dom8_0 (v : (List (Int × Int × Int × Int × Int × Int × Int × Int)) × List Int) : Prop := (((v.1).length ≤ maxLen ∧ ∀ x ∈ v.1, (Lit.int .i64 x.1).wf = true ∧ (Lit.int .i64 x.2.1).wf = true ∧ (Lit.int .i64 x.2.2.1).wf = true ∧ (Lit.int .i64 x.2.2.2.1).wf = true ∧ (Lit.int .i64 x.2.2.2.2.1).wf = true ∧ (Lit.int .i64 x.2.2.2.2.2.1).wf = true ∧ (Lit.int .i64 x.2.2.2.2.2.2.1).wf = true ∧ (Lit.int .i64 x.2.2.2.2.2.2.2).wf = true)) ∧ (((v.2).length ≤ maxLen ∧ ∀ x ∈ v.2, (Lit.int .u8 x).wf = true))
end Go.Proofs.Ytfhhpfhmplgndaa.Ev
