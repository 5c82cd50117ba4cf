import Derived.Test.YtfhhpfhmplgndaaXEnv
set_option linter.unusedVariables false
namespace Go.Proofs.Ytfhhpfhmplgndaa.Ev
open Go Go.RowKit
/- slices.Clone[chicane/ghost.Ghost,chicane/api.Fx] -/
abbrev A56_n : Type := Unit
abbrev R56_n : Type := List Int
def v56_n : Pk G Unit := (Pk.snd (pk (Sh.snd (Sh.cons Sh.nilsl Sh.nil)) Sh.hnil))
def w56_n : Wk G (List Int) := (Wk.one [(.own 0 23)] (Pk.snd (pk (Sh.snd (Sh.cons (Sh.osl 0) Sh.nil)) (Sh.fst (Sh.hrow 0 23 Sh.hnil)))))
def F56_n (v : Unit) : Option (List Int) :=
  some ([] : List Int)

noncomputable def k56_n : List (Known Try.prog E) := []
noncomputable def L56_n (n id : Nat) (st : St G) : Option (List Int) := none
set_option maxRecDepth 100000 in
theorem e56_n (n : Nat) (v : Unit) : ev Try.prog E (oracle k56_n) Try.f56.ntmps (fun x => mem x []) (L56_n n) (finA Try.prog E Try.f56.results.toList [] w56_n.alts) 4000 [.code (Try.f56.body.getD .skip)] (argSt (v56_n.enc v)) = F56_n v := by kernel_rfl
theorem ok56_n : FnOk Try.prog E 56 v56_n.enc F56_n w56_n.enc :=
  fn_known (fn := Try.f56) (c := (Try.f56.body.getD .skip)) Try.func56 (by kernel_rfl) rfl envOk (oracle_ok k56_n) mixed v56_n F56_n w56_n [] [] 4000 L56_n (by kernel_rfl)
    (fun _ h => nomatch h) (fun v _ h => ⟨0, (e56_n _ v).trans h⟩) (fun _ => by kernel_rfl) (fun _ => by kernel_rfl) (fun _ _ => by kernel_rfl)
/- slices.Clone[chicane/ghost.Ghost,chicane/api.Fx] -/
abbrev A56_r : Type := List Int
abbrev R56_r : Type := List Int
def v56_r : Pk G (List Int) := (Pk.fst (pk (Sh.fst (Sh.cons (Sh.rosn 23) Sh.nil)) Sh.hnil))
def w56_r : Wk G (List Int) := (Wk.one [(.own 0 23)] (Pk.snd (pk (Sh.snd (Sh.cons (Sh.osl 0) Sh.nil)) (Sh.fst (Sh.hrow 0 23 Sh.hnil)))))
def F56_r (v : List Int) : Option (List Int) :=
  (chk (decide (((([] : List Int)).length + (v).length) * 8 ≤ 140737488355328))).bind fun _ =>
  let x5 : List Int := (([] : List Int) ++ v)
  some (x5)

noncomputable def k56_r : List (Known Try.prog E) := []
noncomputable def L56_r (n id : Nat) (st : St G) : Option (List Int) := none
set_option maxRecDepth 100000 in
theorem e56_r (n : Nat) (v : List Int) : ev Try.prog E (oracle k56_r) Try.f56.ntmps (fun x => mem x []) (L56_r n) (finA Try.prog E Try.f56.results.toList [] w56_r.alts) 4000 [.code (Try.f56.body.getD .skip)] (argSt (v56_r.enc v)) = F56_r v := by kernel_rfl
theorem ok56_r : FnOk Try.prog E 56 v56_r.enc F56_r w56_r.enc :=
  fn_known (fn := Try.f56) (c := (Try.f56.body.getD .skip)) Try.func56 (by kernel_rfl) rfl envOk (oracle_ok k56_r) mixed v56_r F56_r w56_r [] [] 4000 L56_r (by kernel_rfl)
    (fun _ h => nomatch h) (fun v _ h => ⟨0, (e56_r _ v).trans h⟩) (fun _ => by kernel_rfl) (fun _ => by kernel_rfl) (fun _ _ => by kernel_rfl)
/- slices.Clone[chicane/ghost.Ghost,chicane/api.Fx] -/
abbrev A56_0 : Type := List Int
abbrev R56_0 : Type := List Int
def v56_0 : Pk G (List Int) := (Pk.fst (pk (Sh.fst (Sh.cons (Sh.ros 23) Sh.nil)) Sh.hnil))
def w56_0 : Wk G (List Int) := (Wk.one [(.own 0 23)] (Pk.snd (pk (Sh.snd (Sh.cons (Sh.osl 0) Sh.nil)) (Sh.fst (Sh.hrow 0 23 Sh.hnil)))))
def F56_0 (v : List Int) : Option (List Int) := F56_r v
theorem on56_0 : FnOk Try.prog E 56 (fun _ : Unit => ([AV.nilsl], [])) F56_n w56_0.enc := ok56_n
theorem or56_0 : FnOk Try.prog E 56 (fun xs : List (G 23) => ([AV.rosn 23 xs], [])) F56_r w56_0.enc := ok56_r
theorem ok56_0 : FnOk Try.prog E 56 v56_0.enc F56_0 w56_0.enc := FnOk.split (e := 23) on56_0 or56_0 (fun _ h => (by kernel_rfl : F56_n () = F56_r []).trans h) (fun _ _ h => h)
/- (chicane/ghost.Ghost).last -/
abbrev A57_0 : Type := List Int × Int
abbrev R57_0 : Type := Int
def v57_0 : Pk G (List Int × Int) := (Pk.fst (pk (Sh.cons (Sh.ros 23) (Sh.fst (Sh.cons (Sh.int .i64) Sh.nil))) Sh.hnil))
def w57_0 : Wk G Int := (Wk.one [.keep] (Pk.fst (pk (Sh.fst (Sh.cons (Sh.int .i64) Sh.nil)) Sh.hnil)))
def F57_0 (v : List Int × Int) : Option Int :=
  bif (((v.1).length : Int) == (0 : Int)) then
    some (v.2)
  else
    let x13 : Int := (IntKind.wrap .i64 (((v.1).length : Int) - (1 : Int)))
    (rdx v.1 x13).bind fun (x14 : Int) =>
    let x15 : Int := (if x14 > v.2 then x14 else v.2)
    some (x15)

noncomputable def k57_0 : List (Known Try.prog E) := []
noncomputable def L57_0 (n id : Nat) (st : St G) : Option Int := none
set_option maxRecDepth 100000 in
theorem e57_0 (n : Nat) (v : List Int × Int) : ev Try.prog E (oracle k57_0) Try.f57.ntmps (fun x => mem x []) (L57_0 n) (finA Try.prog E Try.f57.results.toList [] w57_0.alts) 4000 [.code (Try.f57.body.getD .skip)] (argSt (v57_0.enc v)) = F57_0 v := by kernel_rfl
theorem ok57_0 : FnOk Try.prog E 57 v57_0.enc F57_0 w57_0.enc :=
  fn_known (fn := Try.f57) (c := (Try.f57.body.getD .skip)) Try.func57 (by kernel_rfl) rfl envOk (oracle_ok k57_0) mixed v57_0 F57_0 w57_0 [] [] 4000 L57_0 (by kernel_rfl)
    (fun _ h => nomatch h) (fun v _ h => ⟨0, (e57_0 _ v).trans h⟩) (fun _ => by kernel_rfl) (fun _ => by kernel_rfl) (fun _ _ => by kernel_rfl)
/- chicane/ghost.Note -/
abbrev A27_0 : Type := List Int × Int
abbrev R27_0 : Type := List Int
def v27_0 : Pk G (List Int × Int) := (Pk.fst (pk (Sh.cons (Sh.ros 23) (Sh.fst (Sh.cons (Sh.int .i64) Sh.nil))) Sh.hnil))
def w27_0 : Wk G (List Int) := (Wk.one [(.own 0 23)] (Pk.snd (pk (Sh.snd (Sh.cons (Sh.osl 0) Sh.nil)) (Sh.fst (Sh.hrow 0 23 Sh.hnil)))))
def F27_0 (v : List Int × Int) : Option (List Int) :=
  (F56_0 v.1).bind fun r21 =>
  (F57_0 v).bind fun r22 =>
  (chk (decide (((r21).length + (([r22] : List Int)).length) * 8 ≤ 140737488355328))).bind fun _ =>
  let x23 : List Int := (r21 ++ ([r22] : List Int))
  some (x23)

noncomputable def k27_0 : List (Known Try.prog E) := [Known.of envOk [7] [(.ros 23)] v56_0 F56_0 w56_0 ok56_0, Known.of envOk [7, 1] [(.ros 23), .keep] v57_0 F57_0 w57_0 ok57_0]
noncomputable def L27_0 (n id : Nat) (st : St G) : Option (List Int) := none
set_option maxRecDepth 100000 in
theorem e27_0 (n : Nat) (v : List Int × Int) : ev Try.prog E (oracle k27_0) Try.f27.ntmps (fun x => mem x []) (L27_0 n) (finA Try.prog E Try.f27.results.toList [] w27_0.alts) 4000 [.code (Try.f27.body.getD .skip)] (argSt (v27_0.enc v)) = F27_0 v := by kernel_rfl
theorem ok27_0 : FnOk Try.prog E 27 v27_0.enc F27_0 w27_0.enc :=
  fn_known (fn := Try.f27) (c := (Try.f27.body.getD .skip)) Try.func27 (by kernel_rfl) rfl envOk (oracle_ok k27_0) mixed v27_0 F27_0 w27_0 [] [] 4000 L27_0 (by kernel_rfl)
    (fun _ h => nomatch h) (fun v _ h => ⟨0, (e27_0 _ v).trans h⟩) (fun _ => by kernel_rfl) (fun _ => by kernel_rfl) (fun _ _ => by kernel_rfl)
/- chicane/chicanelaw42.noted -/
abbrev A11_0 : Type := List Int
abbrev R11_0 : Type := List Int
def v11_0 : Pk G (List Int) := (Pk.fst (pk (Sh.fst (Sh.cons (Sh.ros 23) Sh.nil)) Sh.hnil))
def w11_0 : Wk G (List Int) := (Wk.one [(.own 0 23)] (Pk.snd (pk (Sh.snd (Sh.cons (Sh.osl 0) Sh.nil)) (Sh.fst (Sh.hrow 0 23 Sh.hnil)))))
def c11_0_3 : Pk G ((List Int × Int) × List Int) := (pk (Sh.cons (Sh.ros 23) (Sh.snd (Sh.cons (Sh.osl 0) (Sh.fst (Sh.cons (Sh.int .i64) Sh.nil))))) (Sh.fst (Sh.hrow 0 23 Sh.hnil)))
def B11_0_3 (K : (((List Int × Int) × List Int) → Option (List Int))) (v : (List Int × Int) × List Int) : Option (List Int) :=
  bif (decide (v.1.2 < ((v.1.1).length : Int))) then
    (rdx v.1.1 v.1.2).bind fun (x30 : Int) =>
    (F27_0 (v.2, x30)).bind fun r31 =>
    let x32 : Int := (IntKind.wrap .i64 (v.1.2 + (1 : Int)))
    K ((v.1.1, x32), r31)
  else
    some (v.2)

def E11_0 (K : (((List Int × Int) × List Int) → Option (List Int))) (v : List Int) : Option (List Int) :=
  K ((v, (0 : Int)), ([] : List Int))

def K11_0 : Nat → (((List Int × Int) × List Int) → Option (List Int))
  | 0 => (fun _ => none)
  | n + 1 => (B11_0_3 (K11_0 n))
def fuel11_0 (v : List Int) : Nat := 1000
def F11_0 (v : List Int) : Option (List Int) := E11_0 (K11_0 (fuel11_0 v)) v
noncomputable def k11_0 : List (Known Try.prog E) := [Known.of envOk [7, 1] [(.ros 23), .keep] v27_0 F27_0 w27_0 ok27_0]
def s11_0_3 : List (Nat × Pat) := [(0, (.ros 23)), (3, (.own 0 23)), (4, .keep)]
noncomputable def L11_0 (n id : Nat) (st : St G) : Option (List Int) := match Nat.beq id 3 with | true => cutK Try.prog s11_0_3 [] c11_0_3.dec (K11_0 n) st | false => none
set_option maxRecDepth 100000 in
theorem e11_0 (n : Nat) (v : List Int) : ev Try.prog E (oracle k11_0) Try.f11.ntmps (fun x => mem x [3]) (L11_0 n) (finA Try.prog E Try.f11.results.toList [] w11_0.alts) 4000 [.code (Try.f11.body.getD .skip)] (argSt (v11_0.enc v)) = E11_0 (K11_0 n) v := by kernel_rfl
set_option maxRecDepth 100000 in
theorem b11_0_3 (n : Nat) (v : (List Int × Int) × List Int) : evCut Try.prog E (oracle k11_0) Try.f11.ntmps (fun x => mem x [3]) (L11_0 n) (finA Try.prog E Try.f11.results.toList [] w11_0.alts) 4000 (todoAt (Try.f11.body.getD .skip) 3) (cutSt s11_0_3 (c11_0_3.enc v)) = B11_0_3 (K11_0 n) v := by kernel_rfl
theorem ok11_0 : FnOk Try.prog E 11 v11_0.enc F11_0 w11_0.enc :=
  fn_known (fn := Try.f11) (c := (Try.f11.body.getD .skip)) Try.func11 (by kernel_rfl) rfl envOk (oracle_ok k11_0) mixed v11_0 F11_0 w11_0 [] [3] 4000 L11_0 (by kernel_rfl)
    (List.forall_mem_cons.2 ⟨⟨_, s11_0_3, c11_0_3.dec, c11_0_3.enc, fun n => (K11_0 n), c11_0_3.ok, fun _ _ => rfl, fun _ => rfl, fun n v _ h => (b11_0_3 n v).trans h⟩, fun _ h => (nomatch h)⟩) (fun v _ h => ⟨fuel11_0 v, (e11_0 _ v).trans h⟩) (fun _ => by kernel_rfl) (fun _ => by kernel_rfl) (fun _ _ => by kernel_rfl)
/- cmp.isNaN[chicane/api.Fx] -/
abbrev A110_0 : Type := Int
abbrev R110_0 : Type := Bool
def v110_0 : Pk G Int := (Pk.fst (pk (Sh.fst (Sh.cons (Sh.int .i64) Sh.nil)) Sh.hnil))
def w110_0 : Wk G Bool := (Wk.one [.keep] (Pk.fst (pk (Sh.fst (Sh.cons Sh.bool Sh.nil)) Sh.hnil)))
def F110_0 (v : Int) : Option Bool :=
  some (v != v)

noncomputable def k110_0 : List (Known Try.prog E) := []
noncomputable def L110_0 (n id : Nat) (st : St G) : Option Bool := none
set_option maxRecDepth 100000 in
theorem e110_0 (n : Nat) (v : Int) : ev Try.prog E (oracle k110_0) Try.f110.ntmps (fun x => mem x []) (L110_0 n) (finA Try.prog E Try.f110.results.toList [] w110_0.alts) 4000 [.code (Try.f110.body.getD .skip)] (argSt (v110_0.enc v)) = F110_0 v := by kernel_rfl
theorem ok110_0 : FnOk Try.prog E 110 v110_0.enc F110_0 w110_0.enc :=
  fn_known (fn := Try.f110) (c := (Try.f110.body.getD .skip)) Try.func110 (by kernel_rfl) rfl envOk (oracle_ok k110_0) mixed v110_0 F110_0 w110_0 [] [] 4000 L110_0 (by kernel_rfl)
    (fun _ h => nomatch h) (fun v _ h => ⟨0, (e110_0 _ v).trans h⟩) (fun _ => by kernel_rfl) (fun _ => by kernel_rfl) (fun _ _ => by kernel_rfl)
/- cmp.Less[chicane/api.Fx] -/
abbrev A92_0 : Type := Int × Int
abbrev R92_0 : Type := Bool
def v92_0 : Pk G (Int × Int) := (Pk.fst (pk (Sh.cons (Sh.int .i64) (Sh.fst (Sh.cons (Sh.int .i64) Sh.nil))) Sh.hnil))
def w92_0 : Wk G Bool := (Wk.one [.keep] (Pk.fst (pk (Sh.fst (Sh.cons Sh.bool Sh.nil)) Sh.hnil)))
def F92_0 (v : Int × Int) : Option Bool :=
  (F110_0 v.1).bind fun r53 =>
  bif r53 then
    (F110_0 v.2).bind fun r54 =>
    bif (!r54) then
      some (true)
    else
      some (decide (v.1 < v.2))
  else
    some (decide (v.1 < v.2))

noncomputable def k92_0 : List (Known Try.prog E) := [Known.of envOk [1] [.keep] v110_0 F110_0 w110_0 ok110_0]
noncomputable def L92_0 (n id : Nat) (st : St G) : Option Bool := none
set_option maxRecDepth 100000 in
theorem e92_0 (n : Nat) (v : Int × Int) : ev Try.prog E (oracle k92_0) Try.f92.ntmps (fun x => mem x []) (L92_0 n) (finA Try.prog E Try.f92.results.toList [] w92_0.alts) 4000 [.code (Try.f92.body.getD .skip)] (argSt (v92_0.enc v)) = F92_0 v := by kernel_rfl
theorem ok92_0 : FnOk Try.prog E 92 v92_0.enc F92_0 w92_0.enc :=
  fn_known (fn := Try.f92) (c := (Try.f92.body.getD .skip)) Try.func92 (by kernel_rfl) rfl envOk (oracle_ok k92_0) mixed v92_0 F92_0 w92_0 [] [] 4000 L92_0 (by kernel_rfl)
    (fun _ h => nomatch h) (fun v _ h => ⟨0, (e92_0 _ v).trans h⟩) (fun _ => by kernel_rfl) (fun _ => by kernel_rfl) (fun _ _ => by kernel_rfl)
/- slices.IsSorted[chicane/ghost.Ghost,chicane/api.Fx] -/
abbrev A58_0 : Type := List Int
abbrev R58_0 : Type := Bool
def v58_0 : Pk G (List Int) := (Pk.fst (pk (Sh.fst (Sh.cons (Sh.ros 23) Sh.nil)) Sh.hnil))
def w58_0 : Wk G Bool := (Wk.one [.keep] (Pk.fst (pk (Sh.fst (Sh.cons Sh.bool Sh.nil)) Sh.hnil)))
def c58_0_2 : Pk G (List Int × Int) := (Pk.fst (pk (Sh.cons (Sh.ros 23) (Sh.fst (Sh.cons (Sh.int .i64) Sh.nil))) Sh.hnil))
def B58_0_2 (K : ((List Int × Int) → Option Bool)) (v : List Int × Int) : Option Bool :=
  bif (decide (v.2 > (0 : Int))) then
    (rdx v.1 v.2).bind fun (x65 : Int) =>
    let x66 : Int := (IntKind.wrap .i64 (v.2 - (1 : Int)))
    (rdx v.1 x66).bind fun (x67 : Int) =>
    (F92_0 (x65, x67)).bind fun r68 =>
    bif r68 then
      some (false)
    else
      let x69 : Int := (IntKind.wrap .i64 (v.2 - (1 : Int)))
      K (v.1, x69)
  else
    some (true)

def E58_0 (K : ((List Int × Int) → Option Bool)) (v : List Int) : Option Bool :=
  let x64 : Int := (IntKind.wrap .i64 (((v).length : Int) - (1 : Int)))
  K (v, x64)

def K58_0 : Nat → ((List Int × Int) → Option Bool)
  | 0 => (fun _ => none)
  | n + 1 => (B58_0_2 (K58_0 n))
def fuel58_0 (v : List Int) : Nat := 1000
def F58_0 (v : List Int) : Option Bool := E58_0 (K58_0 (fuel58_0 v)) v
noncomputable def k58_0 : List (Known Try.prog E) := [Known.of envOk [1, 1] [.keep, .keep] v92_0 F92_0 w92_0 ok92_0]
def s58_0_2 : List (Nat × Pat) := [(0, (.ros 23)), (3, .keep)]
noncomputable def L58_0 (n id : Nat) (st : St G) : Option Bool := match Nat.beq id 2 with | true => cutK Try.prog s58_0_2 [] c58_0_2.dec (K58_0 n) st | false => none
set_option maxRecDepth 100000 in
theorem e58_0 (n : Nat) (v : List Int) : ev Try.prog E (oracle k58_0) Try.f58.ntmps (fun x => mem x [2]) (L58_0 n) (finA Try.prog E Try.f58.results.toList [] w58_0.alts) 4000 [.code (Try.f58.body.getD .skip)] (argSt (v58_0.enc v)) = E58_0 (K58_0 n) v := by kernel_rfl
set_option maxRecDepth 100000 in
theorem b58_0_2 (n : Nat) (v : List Int × Int) : evCut Try.prog E (oracle k58_0) Try.f58.ntmps (fun x => mem x [2]) (L58_0 n) (finA Try.prog E Try.f58.results.toList [] w58_0.alts) 4000 (todoAt (Try.f58.body.getD .skip) 2) (cutSt s58_0_2 (c58_0_2.enc v)) = B58_0_2 (K58_0 n) v := by kernel_rfl
theorem ok58_0 : FnOk Try.prog E 58 v58_0.enc F58_0 w58_0.enc :=
  fn_known (fn := Try.f58) (c := (Try.f58.body.getD .skip)) Try.func58 (by kernel_rfl) rfl envOk (oracle_ok k58_0) mixed v58_0 F58_0 w58_0 [] [2] 4000 L58_0 (by kernel_rfl)
    (List.forall_mem_cons.2 ⟨⟨_, s58_0_2, c58_0_2.dec, c58_0_2.enc, fun n => (K58_0 n), c58_0_2.ok, fun _ _ => rfl, fun _ => rfl, fun n v _ h => (b58_0_2 n v).trans h⟩, fun _ h => (nomatch h)⟩) (fun v _ h => ⟨fuel58_0 v, (e58_0 _ v).trans h⟩) (fun _ => by kernel_rfl) (fun _ => by kernel_rfl) (fun _ _ => by kernel_rfl)
/- (chicane/ghost.Ghost).first$1 -/
abbrev A60_0 : Type := Int × Int
abbrev R60_0 : Type := Bool × Int
def v60_0 : Pk G (Int × Int) := (pk (Sh.fst (Sh.cons (Sh.int .i64) (Sh.snd (Sh.cons (Sh.ptr 0 0) Sh.nil)))) (Sh.fst (Sh.hfix 0 23 (Sh.fst (Sh.cons (Sh.int .i64) Sh.nil)) Sh.hnil)))
def w60_0 : Wk G (Bool × Int) := (Wk.one [.keep] (pk (Sh.fst (Sh.cons Sh.bool Sh.nil)) (Sh.fst (Sh.hfix 0 23 (Sh.fst (Sh.cons (Sh.int .i64) Sh.nil)) Sh.hnil))))
def F60_0 (v : Int × Int) : Option (Bool × Int) :=
  some ((decide (v.1 ≥ v.2)), v.2)

noncomputable def k60_0 : List (Known Try.prog E) := []
noncomputable def L60_0 (n id : Nat) (st : St G) : Option (Bool × Int) := none
set_option maxRecDepth 100000 in
theorem e60_0 (n : Nat) (v : Int × Int) : ev Try.prog E (oracle k60_0) Try.f60.ntmps (fun x => mem x []) (L60_0 n) (finA Try.prog E Try.f60.results.toList [(.ptr 0 0 23 [.keep])] w60_0.alts) 4000 [.code (Try.f60.body.getD .skip)] (argSt (v60_0.enc v)) = F60_0 v := by kernel_rfl
theorem ok60_0 : FnOk Try.prog E 60 v60_0.enc F60_0 w60_0.enc :=
  fn_known (fn := Try.f60) (c := (Try.f60.body.getD .skip)) Try.func60 (by kernel_rfl) rfl envOk (oracle_ok k60_0) mixed v60_0 F60_0 w60_0 [(.ptr 0 0 23 [.keep])] [] 4000 L60_0 (by kernel_rfl)
    (fun _ h => nomatch h) (fun v _ h => ⟨0, (e60_0 _ v).trans h⟩) (fun _ => by kernel_rfl) (fun _ => by kernel_rfl) (fun _ _ => by kernel_rfl)
/- slices.IndexFunc[chicane/ghost.Ghost,chicane/api.Fx] -/
abbrev A59_0 : Type := List Int × Int
abbrev R59_0 : Type := Int × Int
def v59_0 : Pk G (List Int × Int) := (pk (Sh.fst (Sh.cons (Sh.ros 23) (Sh.snd (Sh.cons (Sh.snd (Sh.fn (.func 60) Sh.nil (Sh.snd (Sh.cons (Sh.ptr 0 0) Sh.nil)))) Sh.nil)))) (Sh.fst (Sh.hfix 0 23 (Sh.fst (Sh.cons (Sh.int .i64) Sh.nil)) Sh.hnil)))
def w59_0 : Wk G (Int × Int) := (Wk.one [.keep] (pk (Sh.fst (Sh.cons (Sh.int .i64) Sh.nil)) (Sh.fst (Sh.hfix 0 23 (Sh.fst (Sh.cons (Sh.int .i64) Sh.nil)) Sh.hnil))))
def c59_0_2 : Pk G ((List Int × Int × Int) × Int) := (pk (Sh.cons (Sh.ros 23) (Sh.snd (Sh.cons (Sh.snd (Sh.fn (.func 60) Sh.nil (Sh.snd (Sh.cons (Sh.ptr 0 0) Sh.nil)))) (Sh.cons (Sh.int .i64) (Sh.fst (Sh.cons (Sh.int .i64) Sh.nil)))))) (Sh.fst (Sh.hfix 0 23 (Sh.fst (Sh.cons (Sh.int .i64) Sh.nil)) Sh.hnil)))
def B59_0_2 (K : (((List Int × Int × Int) × Int) → Option (Int × Int))) (v : (List Int × Int × Int) × Int) : Option (Int × Int) :=
  bif (decide (v.1.2.2 < v.1.2.1)) then
    (rdx v.1.1 v.1.2.2).bind fun (x79 : Int) =>
    (F60_0 (x79, v.2)).bind fun r80 =>
    bif r80.1 then
      some (v.1.2.2, r80.2)
    else
      let x81 : Int := (IntKind.wrap .i64 (v.1.2.2 + (1 : Int)))
      K ((v.1.1, (v.1.2.1, x81)), r80.2)
  else
    some ((-1 : Int), v.2)

def E59_0 (K : (((List Int × Int × Int) × Int) → Option (Int × Int))) (v : List Int × Int) : Option (Int × Int) :=
  K ((v.1, (((v.1).length : Int), (0 : Int))), v.2)

def K59_0 : Nat → (((List Int × Int × Int) × Int) → Option (Int × Int))
  | 0 => (fun _ => none)
  | n + 1 => (B59_0_2 (K59_0 n))
def fuel59_0 (v : List Int × Int) : Nat := 1000
def F59_0 (v : List Int × Int) : Option (Int × Int) := E59_0 (K59_0 (fuel59_0 v)) v
noncomputable def k59_0 : List (Known Try.prog E) := [Known.of envOk [1, 5] [.keep, (.ptr 0 0 23 [.keep])] v60_0 F60_0 w60_0 ok60_0]
def s59_0_2 : List (Nat × Pat) := [(0, (.ros 23)), (1, (.fn (.func 60) [] [(.ptr 0 0 23 [])])), (7, .keep), (8, .keep)]
noncomputable def L59_0 (n id : Nat) (st : St G) : Option (Int × Int) := match Nat.beq id 2 with | true => cutK Try.prog s59_0_2 [(.ptr 0 0 23 [.keep])] c59_0_2.dec (K59_0 n) st | false => none
set_option maxRecDepth 100000 in
theorem e59_0 (n : Nat) (v : List Int × Int) : ev Try.prog E (oracle k59_0) Try.f59.ntmps (fun x => mem x [2]) (L59_0 n) (finA Try.prog E Try.f59.results.toList [(.ptr 0 0 23 [.keep])] w59_0.alts) 4000 [.code (Try.f59.body.getD .skip)] (argSt (v59_0.enc v)) = E59_0 (K59_0 n) v := by kernel_rfl
set_option maxRecDepth 100000 in
theorem b59_0_2 (n : Nat) (v : (List Int × Int × Int) × Int) : evCut Try.prog E (oracle k59_0) Try.f59.ntmps (fun x => mem x [2]) (L59_0 n) (finA Try.prog E Try.f59.results.toList [(.ptr 0 0 23 [.keep])] w59_0.alts) 4000 (todoAt (Try.f59.body.getD .skip) 2) (cutSt s59_0_2 (c59_0_2.enc v)) = B59_0_2 (K59_0 n) v := by kernel_rfl
theorem ok59_0 : FnOk Try.prog E 59 v59_0.enc F59_0 w59_0.enc :=
  fn_known (fn := Try.f59) (c := (Try.f59.body.getD .skip)) Try.func59 (by kernel_rfl) rfl envOk (oracle_ok k59_0) mixed v59_0 F59_0 w59_0 [(.ptr 0 0 23 [.keep])] [2] 4000 L59_0 (by kernel_rfl)
    (List.forall_mem_cons.2 ⟨⟨_, s59_0_2, c59_0_2.dec, c59_0_2.enc, fun n => (K59_0 n), c59_0_2.ok, fun _ _ => rfl, fun _ => rfl, fun n v _ h => (b59_0_2 n v).trans h⟩, fun _ h => (nomatch h)⟩) (fun v _ h => ⟨fuel59_0 v, (e59_0 _ v).trans h⟩) (fun _ => by kernel_rfl) (fun _ => by kernel_rfl) (fun _ _ => by kernel_rfl)
/- (chicane/ghost.Ghost).first$2 -/
abbrev A62_0 : Type := Int × Int × List Int
abbrev R62_0 : Type := Bool × Int × List Int
def v62_0 : Pk G (Int × Int × List Int) := (pk (Sh.fst (Sh.cons (Sh.int .i64) (Sh.snd (Sh.cons (Sh.ptr 0 0) (Sh.snd (Sh.cons (Sh.ptr 1 0) Sh.nil)))))) (Sh.hfix 1 23 (Sh.fst (Sh.cons (Sh.int .i64) Sh.nil)) (Sh.fst (Sh.hfix 0 24 (Sh.fst (Sh.cons (Sh.ros 23) Sh.nil)) Sh.hnil))))
def w62_0 : Wk G (Bool × Int × List Int) := (Wk.one [.keep] (pk (Sh.fst (Sh.cons Sh.bool Sh.nil)) (Sh.hfix 1 23 (Sh.fst (Sh.cons (Sh.int .i64) Sh.nil)) (Sh.fst (Sh.hfix 0 24 (Sh.fst (Sh.cons (Sh.ros 23) Sh.nil)) Sh.hnil)))))
def F62_0 (v : Int × Int × List Int) : Option (Bool × Int × List Int) :=
  (rdx v.2.2 v.1).bind fun (x90 : Int) =>
  some ((decide (x90 ≥ v.2.1)), v.2)

noncomputable def k62_0 : List (Known Try.prog E) := []
noncomputable def L62_0 (n id : Nat) (st : St G) : Option (Bool × Int × List Int) := none
set_option maxRecDepth 100000 in
theorem e62_0 (n : Nat) (v : Int × Int × List Int) : ev Try.prog E (oracle k62_0) Try.f62.ntmps (fun x => mem x []) (L62_0 n) (finA Try.prog E Try.f62.results.toList [(.ptr 0 0 24 [(.ros 23)]), (.ptr 1 0 23 [.keep])] w62_0.alts) 4000 [.code (Try.f62.body.getD .skip)] (argSt (v62_0.enc v)) = F62_0 v := by kernel_rfl
theorem ok62_0 : FnOk Try.prog E 62 v62_0.enc F62_0 w62_0.enc :=
  fn_known (fn := Try.f62) (c := (Try.f62.body.getD .skip)) Try.func62 (by kernel_rfl) rfl envOk (oracle_ok k62_0) mixed v62_0 F62_0 w62_0 [(.ptr 0 0 24 [(.ros 23)]), (.ptr 1 0 23 [.keep])] [] 4000 L62_0 (by kernel_rfl)
    (fun _ h => nomatch h) (fun v _ h => ⟨0, (e62_0 _ v).trans h⟩) (fun _ => by kernel_rfl) (fun _ => by kernel_rfl) (fun _ _ => by kernel_rfl)
/- sort.Search -/
abbrev A61_0 : Type := Int × Int × List Int
abbrev R61_0 : Type := Int × Int × List Int
def v61_0 : Pk G (Int × Int × List Int) := (pk (Sh.fst (Sh.cons (Sh.int .i64) (Sh.snd (Sh.cons (Sh.snd (Sh.fn (.func 62) Sh.nil (Sh.snd (Sh.cons (Sh.ptr 0 0) (Sh.snd (Sh.cons (Sh.ptr 1 0) Sh.nil)))))) Sh.nil)))) (Sh.hfix 1 23 (Sh.fst (Sh.cons (Sh.int .i64) Sh.nil)) (Sh.fst (Sh.hfix 0 24 (Sh.fst (Sh.cons (Sh.ros 23) Sh.nil)) Sh.hnil))))
def w61_0 : Wk G (Int × Int × List Int) := (Wk.one [.keep] (pk (Sh.fst (Sh.cons (Sh.int .i64) Sh.nil)) (Sh.hfix 1 23 (Sh.fst (Sh.cons (Sh.int .i64) Sh.nil)) (Sh.fst (Sh.hfix 0 24 (Sh.fst (Sh.cons (Sh.ros 23) Sh.nil)) Sh.hnil)))))
def c61_0_2 : Pk G ((Int × Int) × Int × List Int) := (pk (Sh.snd (Sh.cons (Sh.snd (Sh.fn (.func 62) Sh.nil (Sh.snd (Sh.cons (Sh.ptr 0 0) (Sh.snd (Sh.cons (Sh.ptr 1 0) Sh.nil)))))) (Sh.cons (Sh.int .i64) (Sh.fst (Sh.cons (Sh.int .i64) Sh.nil))))) (Sh.hfix 1 23 (Sh.fst (Sh.cons (Sh.int .i64) Sh.nil)) (Sh.fst (Sh.hfix 0 24 (Sh.fst (Sh.cons (Sh.ros 23) Sh.nil)) Sh.hnil))))
def B61_0_2 (K : (((Int × Int) × Int × List Int) → Option (Int × Int × List Int))) (v : (Int × Int) × Int × List Int) : Option (Int × Int × List Int) :=
  bif (decide (v.1.1 < v.1.2)) then
    let x100 : Int := (IntKind.wrap .i64 (v.1.1 + v.1.2))
    let x101 : Int := (IntKind.wrap .u64 x100)
    let x102 : Int := (Int.fdiv x101 (2 ^ 1))
    let x103 : Int := (IntKind.wrap .i64 x102)
    (F62_0 (x103, v.2)).bind fun r104 =>
    bif (!r104.1) then
      let x105 : Int := (IntKind.wrap .i64 (x103 + (1 : Int)))
      K ((x105, v.1.2), r104.2)
    else
      K ((v.1.1, x103), r104.2)
  else
    some (v.1.1, v.2)

def E61_0 (K : (((Int × Int) × Int × List Int) → Option (Int × Int × List Int))) (v : Int × Int × List Int) : Option (Int × Int × List Int) :=
  K (((0 : Int), v.1), v.2)

def K61_0 : Nat → (((Int × Int) × Int × List Int) → Option (Int × Int × List Int))
  | 0 => (fun _ => none)
  | n + 1 => (B61_0_2 (K61_0 n))
def fuel61_0 (v : Int × Int × List Int) : Nat := 1000
def F61_0 (v : Int × Int × List Int) : Option (Int × Int × List Int) := E61_0 (K61_0 (fuel61_0 v)) v
noncomputable def k61_0 : List (Known Try.prog E) := [Known.of envOk [1, 5, 5] [.keep, (.ptr 0 0 24 [(.ros 23)]), (.ptr 1 0 23 [.keep])] v62_0 F62_0 w62_0 ok62_0]
def s61_0_2 : List (Nat × Pat) := [(1, (.fn (.func 62) [] [(.ptr 0 0 24 []), (.ptr 1 0 23 [])])), (5, .keep), (6, .keep)]
noncomputable def L61_0 (n id : Nat) (st : St G) : Option (Int × Int × List Int) := match Nat.beq id 2 with | true => cutK Try.prog s61_0_2 [(.ptr 0 0 24 [(.ros 23)]), (.ptr 1 0 23 [.keep])] c61_0_2.dec (K61_0 n) st | false => none
set_option maxRecDepth 100000 in
theorem e61_0 (n : Nat) (v : Int × Int × List Int) : ev Try.prog E (oracle k61_0) Try.f61.ntmps (fun x => mem x [2]) (L61_0 n) (finA Try.prog E Try.f61.results.toList [(.ptr 0 0 24 [(.ros 23)]), (.ptr 1 0 23 [.keep])] w61_0.alts) 4000 [.code (Try.f61.body.getD .skip)] (argSt (v61_0.enc v)) = E61_0 (K61_0 n) v := by kernel_rfl
set_option maxRecDepth 100000 in
theorem b61_0_2 (n : Nat) (v : (Int × Int) × Int × List Int) : evCut Try.prog E (oracle k61_0) Try.f61.ntmps (fun x => mem x [2]) (L61_0 n) (finA Try.prog E Try.f61.results.toList [(.ptr 0 0 24 [(.ros 23)]), (.ptr 1 0 23 [.keep])] w61_0.alts) 4000 (todoAt (Try.f61.body.getD .skip) 2) (cutSt s61_0_2 (c61_0_2.enc v)) = B61_0_2 (K61_0 n) v := by kernel_rfl
theorem ok61_0 : FnOk Try.prog E 61 v61_0.enc F61_0 w61_0.enc :=
  fn_known (fn := Try.f61) (c := (Try.f61.body.getD .skip)) Try.func61 (by kernel_rfl) rfl envOk (oracle_ok k61_0) mixed v61_0 F61_0 w61_0 [(.ptr 0 0 24 [(.ros 23)]), (.ptr 1 0 23 [.keep])] [2] 4000 L61_0 (by kernel_rfl)
    (List.forall_mem_cons.2 ⟨⟨_, s61_0_2, c61_0_2.dec, c61_0_2.enc, fun n => (K61_0 n), c61_0_2.ok, fun _ _ => rfl, fun _ => rfl, fun n v _ h => (b61_0_2 n v).trans h⟩, fun _ h => (nomatch h)⟩) (fun v _ h => ⟨fuel61_0 v, (e61_0 _ v).trans h⟩) (fun _ => by kernel_rfl) (fun _ => by kernel_rfl) (fun _ _ => by kernel_rfl)
/- (chicane/ghost.Ghost).first -/
abbrev A28_0 : Type := List Int × Int
abbrev R28_0 : Type := Int
def v28_0 : Pk G (List Int × Int) := (Pk.fst (pk (Sh.cons (Sh.ros 23) (Sh.fst (Sh.cons (Sh.int .i64) Sh.nil))) Sh.hnil))
def w28_0 : Wk G Int := (Wk.one [.keep] (Pk.fst (pk (Sh.fst (Sh.cons (Sh.int .i64) Sh.nil)) Sh.hnil)))
def F28_0 (v : List Int × Int) : Option Int :=
  (F58_0 v.1).bind fun r110 =>
  bif (!r110) then
    (F59_0 v).bind fun r111 =>
    bif (decide (r111.1 < (0 : Int))) then
      some ((v.1).length : Int)
    else
      some (r111.1)
  else
    (F61_0 (((v.1).length : Int), (v.2, v.1))).bind fun r112 =>
    some (r112.1)

noncomputable def k28_0 : List (Known Try.prog E) := [Known.of envOk [7] [(.ros 23)] v58_0 F58_0 w58_0 ok58_0, Known.of envOk [7, 160] [(.ros 23), (.fn (.func 60) [] [(.ptr 0 0 23 [.keep])])] v59_0 F59_0 w59_0 ok59_0, Known.of envOk [1, 162] [.keep, (.fn (.func 62) [] [(.ptr 0 0 24 [(.ros 23)]), (.ptr 1 0 23 [.keep])])] v61_0 F61_0 w61_0 ok61_0]
noncomputable def L28_0 (n id : Nat) (st : St G) : Option Int := none
set_option maxRecDepth 100000 in
theorem e28_0 (n : Nat) (v : List Int × Int) : ev Try.prog E (oracle k28_0) Try.f28.ntmps (fun x => mem x []) (L28_0 n) (finA Try.prog E Try.f28.results.toList [] w28_0.alts) 4000 [.code (Try.f28.body.getD .skip)] (argSt (v28_0.enc v)) = F28_0 v := by kernel_rfl
theorem ok28_0 : FnOk Try.prog E 28 v28_0.enc F28_0 w28_0.enc :=
  fn_known (fn := Try.f28) (c := (Try.f28.body.getD .skip)) Try.func28 (by kernel_rfl) rfl envOk (oracle_ok k28_0) mixed v28_0 F28_0 w28_0 [] [] 4000 L28_0 (by kernel_rfl)
    (fun _ h => nomatch h) (fun v _ h => ⟨0, (e28_0 _ v).trans h⟩) (fun _ => by kernel_rfl) (fun _ => by kernel_rfl) (fun _ _ => by kernel_rfl)
/- chicane/wide.Of -/
abbrev A67_0 : Type := Int
abbrev R67_0 : Type := Int × Int
def v67_0 : Pk G Int := (Pk.fst (pk (Sh.fst (Sh.cons (Sh.int .i64) Sh.nil)) Sh.hnil))
def w67_0 : Wk G (Int × Int) := (Wk.one [(.agg [.keep, .keep])] (Pk.fst (pk (Sh.fst (Sh.cons (Sh.agg (Sh.cons (Sh.int .i64) (Sh.fst (Sh.cons (Sh.int .u64) Sh.nil)))) Sh.nil)) Sh.hnil)))
def F67_0 (v : Int) : Option (Int × Int) :=
  let x122 : Int := (Int.fdiv v (2 ^ 63))
  let x123 : Int := (IntKind.wrap .u64 v)
  some (x122, x123)

noncomputable def k67_0 : List (Known Try.prog E) := []
noncomputable def L67_0 (n id : Nat) (st : St G) : Option (Int × Int) := none
set_option maxRecDepth 100000 in
theorem e67_0 (n : Nat) (v : Int) : ev Try.prog E (oracle k67_0) Try.f67.ntmps (fun x => mem x []) (L67_0 n) (finA Try.prog E Try.f67.results.toList [] w67_0.alts) 4000 [.code (Try.f67.body.getD .skip)] (argSt (v67_0.enc v)) = F67_0 v := by kernel_rfl
theorem ok67_0 : FnOk Try.prog E 67 v67_0.enc F67_0 w67_0.enc :=
  fn_known (fn := Try.f67) (c := (Try.f67.body.getD .skip)) Try.func67 (by kernel_rfl) rfl envOk (oracle_ok k67_0) mixed v67_0 F67_0 w67_0 [] [] 4000 L67_0 (by kernel_rfl)
    (fun _ h => nomatch h) (fun v _ h => ⟨0, (e67_0 _ v).trans h⟩) (fun _ => by kernel_rfl) (fun _ => by kernel_rfl) (fun _ _ => by kernel_rfl)
/- math/bits.Sub64 -/
abbrev A65_x : Type := Int × Int × Int
abbrev R65_x : Type := Int × Int
def v65_x : Pk G (Int × Int × Int) := p3u
def w65_x : Wk G (Int × Int) := Wk.one [.keep, .keep] p2u
def F65_x (v : Int × Int × Int) : Option (Int × Int) := sub64F v
theorem ok65_x : FnOk Try.prog E 65 v65_x.enc F65_x w65_x.enc := sub64_known Try.func65 (by kernel_rfl) (by kernel_rfl) (by kernel_rfl) (by kernel_rfl)
/- chicane/wide.Neg -/
abbrev A66_0 : Type := Int × Int
abbrev R66_0 : Type := (Int × Int) × Bool
def v66_0 : Pk G (Int × Int) := (Pk.fst (pk (Sh.fst (Sh.cons (Sh.agg (Sh.cons (Sh.int .i64) (Sh.fst (Sh.cons (Sh.int .u64) Sh.nil)))) Sh.nil)) Sh.hnil))
def w66_0 : Wk G ((Int × Int) × Bool) := (Wk.one [(.agg [.keep, .keep]), .keep] (Pk.fst (pk (Sh.cons (Sh.agg (Sh.cons (Sh.int .i64) (Sh.fst (Sh.cons (Sh.int .u64) Sh.nil)))) (Sh.fst (Sh.cons Sh.bool Sh.nil))) Sh.hnil)))
def F66_0 (v : Int × Int) : Option ((Int × Int) × Bool) :=
  (F65_x ((0 : Int), (v.2, (0 : Int)))).bind fun r137 =>
  let x138 : Int := (IntKind.wrap .u64 v.1)
  (F65_x ((0 : Int), (x138, r137.2))).bind fun r139 =>
  bif (decide (v.1 < (0 : Int))) then
    let x140 : Int := (IntKind.wrap .i64 r139.1)
    bif (decide (x140 < (0 : Int))) then
      some (((0 : Int), (0 : Int)), false)
    else
      let x141 : Int := (IntKind.wrap .i64 r139.1)
      some ((x141, r137.1), true)
  else
    let x142 : Int := (IntKind.wrap .i64 r139.1)
    some ((x142, r137.1), true)

noncomputable def k66_0 : List (Known Try.prog E) := [Known.of envOk [1, 1, 1] [.keep, .keep, .keep] v65_x F65_x w65_x ok65_x]
noncomputable def L66_0 (n id : Nat) (st : St G) : Option ((Int × Int) × Bool) := none
set_option maxRecDepth 100000 in
theorem e66_0 (n : Nat) (v : Int × Int) : ev Try.prog E (oracle k66_0) Try.f66.ntmps (fun x => mem x []) (L66_0 n) (finA Try.prog E Try.f66.results.toList [] w66_0.alts) 4000 [.code (Try.f66.body.getD .skip)] (argSt (v66_0.enc v)) = F66_0 v := by kernel_rfl
theorem ok66_0 : FnOk Try.prog E 66 v66_0.enc F66_0 w66_0.enc :=
  fn_known (fn := Try.f66) (c := (Try.f66.body.getD .skip)) Try.func66 (by kernel_rfl) rfl envOk (oracle_ok k66_0) mixed v66_0 F66_0 w66_0 [] [] 4000 L66_0 (by kernel_rfl)
    (fun _ h => nomatch h) (fun v _ h => ⟨0, (e66_0 _ v).trans h⟩) (fun _ => by kernel_rfl) (fun _ => by kernel_rfl) (fun _ _ => by kernel_rfl)
/- math/bits.Add64 -/
abbrev A96_x : Type := Int × Int × Int
abbrev R96_x : Type := Int × Int
def v96_x : Pk G (Int × Int × Int) := p3u
def w96_x : Wk G (Int × Int) := Wk.one [.keep, .keep] p2u
def F96_x (v : Int × Int × Int) : Option (Int × Int) := add64F v
theorem ok96_x : FnOk Try.prog E 96 v96_x.enc F96_x w96_x.enc := add64_known Try.func96 (by kernel_rfl) (by kernel_rfl) (by kernel_rfl) (by kernel_rfl)
/- chicane/wide.Add -/
abbrev A68_0 : Type := (Int × Int) × Int × Int
abbrev R68_0 : Type := (Int × Int) × Bool
def v68_0 : Pk G ((Int × Int) × Int × Int) := (Pk.fst (pk (Sh.cons (Sh.agg (Sh.cons (Sh.int .i64) (Sh.fst (Sh.cons (Sh.int .u64) Sh.nil)))) (Sh.fst (Sh.cons (Sh.agg (Sh.cons (Sh.int .i64) (Sh.fst (Sh.cons (Sh.int .u64) Sh.nil)))) Sh.nil))) Sh.hnil))
def w68_0 : Wk G ((Int × Int) × Bool) := (Wk.one [(.agg [.keep, .keep]), .keep] (Pk.fst (pk (Sh.cons (Sh.agg (Sh.cons (Sh.int .i64) (Sh.fst (Sh.cons (Sh.int .u64) Sh.nil)))) (Sh.fst (Sh.cons Sh.bool Sh.nil))) Sh.hnil)))
def F68_0 (v : (Int × Int) × Int × Int) : Option ((Int × Int) × Bool) :=
  (F96_x (v.1.2, (v.2.2, (0 : Int)))).bind fun r159 =>
  let x160 : Int := (IntKind.wrap .u64 v.1.1)
  let x161 : Int := (IntKind.wrap .u64 v.2.1)
  (F96_x (x160, (x161, r159.2))).bind fun r162 =>
  bif ((decide (v.1.1 < (0 : Int))) == (decide (v.2.1 < (0 : Int)))) then
    let x163 : Int := (IntKind.wrap .i64 r162.1)
    bif (!((decide (x163 < (0 : Int))) == (decide (v.1.1 < (0 : Int))))) then
      some (((0 : Int), (0 : Int)), false)
    else
      let x164 : Int := (IntKind.wrap .i64 r162.1)
      some ((x164, r159.1), true)
  else
    let x165 : Int := (IntKind.wrap .i64 r162.1)
    some ((x165, r159.1), true)

noncomputable def k68_0 : List (Known Try.prog E) := [Known.of envOk [1, 1, 1] [.keep, .keep, .keep] v96_x F96_x w96_x ok96_x]
noncomputable def L68_0 (n id : Nat) (st : St G) : Option ((Int × Int) × Bool) := none
set_option maxRecDepth 100000 in
theorem e68_0 (n : Nat) (v : (Int × Int) × Int × Int) : ev Try.prog E (oracle k68_0) Try.f68.ntmps (fun x => mem x []) (L68_0 n) (finA Try.prog E Try.f68.results.toList [] w68_0.alts) 4000 [.code (Try.f68.body.getD .skip)] (argSt (v68_0.enc v)) = F68_0 v := by kernel_rfl
theorem ok68_0 : FnOk Try.prog E 68 v68_0.enc F68_0 w68_0.enc :=
  fn_known (fn := Try.f68) (c := (Try.f68.body.getD .skip)) Try.func68 (by kernel_rfl) rfl envOk (oracle_ok k68_0) mixed v68_0 F68_0 w68_0 [] [] 4000 L68_0 (by kernel_rfl)
    (fun _ h => nomatch h) (fun v _ h => ⟨0, (e68_0 _ v).trans h⟩) (fun _ => by kernel_rfl) (fun _ => by kernel_rfl) (fun _ _ => by kernel_rfl)
/- chicane/ghost.between -/
abbrev A30_0 : Type := Int × Int
abbrev R30_0 : Type := Int × Int
def v30_0 : Pk G (Int × Int) := (Pk.fst (pk (Sh.cons (Sh.int .i64) (Sh.fst (Sh.cons (Sh.int .i64) Sh.nil))) Sh.hnil))
def w30_0 : Wk G (Int × Int) := (Wk.one [(.agg [.keep, .keep])] (Pk.fst (pk (Sh.fst (Sh.cons (Sh.agg (Sh.cons (Sh.int .i64) (Sh.fst (Sh.cons (Sh.int .u64) Sh.nil)))) Sh.nil)) Sh.hnil)))
def F30_0 (v : Int × Int) : Option (Int × Int) :=
  (F67_0 v.1).bind fun r171 =>
  (F66_0 r171).bind fun r172 =>
  (F67_0 v.2).bind fun r173 =>
  (F68_0 (r173, r172.1)).bind fun r174 =>
  some (r174.1)

noncomputable def k30_0 : List (Known Try.prog E) := [Known.of envOk [1] [.keep] v67_0 F67_0 w67_0 ok67_0, Known.of envOk [9] [(.agg [.keep, .keep])] v66_0 F66_0 w66_0 ok66_0, Known.of envOk [9, 9] [(.agg [.keep, .keep]), (.agg [.keep, .keep])] v68_0 F68_0 w68_0 ok68_0]
noncomputable def L30_0 (n id : Nat) (st : St G) : Option (Int × Int) := none
set_option maxRecDepth 100000 in
theorem e30_0 (n : Nat) (v : Int × Int) : ev Try.prog E (oracle k30_0) Try.f30.ntmps (fun x => mem x []) (L30_0 n) (finA Try.prog E Try.f30.results.toList [] w30_0.alts) 4000 [.code (Try.f30.body.getD .skip)] (argSt (v30_0.enc v)) = F30_0 v := by kernel_rfl
theorem ok30_0 : FnOk Try.prog E 30 v30_0.enc F30_0 w30_0.enc :=
  fn_known (fn := Try.f30) (c := (Try.f30.body.getD .skip)) Try.func30 (by kernel_rfl) rfl envOk (oracle_ok k30_0) mixed v30_0 F30_0 w30_0 [] [] 4000 L30_0 (by kernel_rfl)
    (fun _ h => nomatch h) (fun v _ h => ⟨0, (e30_0 _ v).trans h⟩) (fun _ => by kernel_rfl) (fun _ => by kernel_rfl) (fun _ _ => by kernel_rfl)
/- cmp.isNaN[int64] -/
abbrev A111_0 : Type := Int
abbrev R111_0 : Type := Bool
def v111_0 : Pk G Int := (Pk.fst (pk (Sh.fst (Sh.cons (Sh.int .i64) Sh.nil)) Sh.hnil))
def w111_0 : Wk G Bool := (Wk.one [.keep] (Pk.fst (pk (Sh.fst (Sh.cons Sh.bool Sh.nil)) Sh.hnil)))
def F111_0 (v : Int) : Option Bool :=
  some (v != v)

noncomputable def k111_0 : List (Known Try.prog E) := []
noncomputable def L111_0 (n id : Nat) (st : St G) : Option Bool := none
set_option maxRecDepth 100000 in
theorem e111_0 (n : Nat) (v : Int) : ev Try.prog E (oracle k111_0) Try.f111.ntmps (fun x => mem x []) (L111_0 n) (finA Try.prog E Try.f111.results.toList [] w111_0.alts) 4000 [.code (Try.f111.body.getD .skip)] (argSt (v111_0.enc v)) = F111_0 v := by kernel_rfl
theorem ok111_0 : FnOk Try.prog E 111 v111_0.enc F111_0 w111_0.enc :=
  fn_known (fn := Try.f111) (c := (Try.f111.body.getD .skip)) Try.func111 (by kernel_rfl) rfl envOk (oracle_ok k111_0) mixed v111_0 F111_0 w111_0 [] [] 4000 L111_0 (by kernel_rfl)
    (fun _ h => nomatch h) (fun v _ h => ⟨0, (e111_0 _ v).trans h⟩) (fun _ => by kernel_rfl) (fun _ => by kernel_rfl) (fun _ _ => by kernel_rfl)
/- cmp.Compare[int64] -/
abbrev A94_0 : Type := Int × Int
abbrev R94_0 : Type := Int
def v94_0 : Pk G (Int × Int) := (Pk.fst (pk (Sh.cons (Sh.int .i64) (Sh.fst (Sh.cons (Sh.int .i64) Sh.nil))) Sh.hnil))
def w94_0 : Wk G Int := (Wk.one [.keep] (Pk.fst (pk (Sh.fst (Sh.cons (Sh.int .i64) Sh.nil)) Sh.hnil)))
def F94_0 (v : Int × Int) : Option Int :=
  (F111_0 v.1).bind fun r184 =>
  (F111_0 v.2).bind fun r185 =>
  bif r184 then
    bif r185 then
      some (0 : Int)
    else
      some (-1 : Int)
  else
    bif r185 then
      some (1 : Int)
    else
      bif (decide (v.1 < v.2)) then
        some (-1 : Int)
      else
        bif (decide (v.1 > v.2)) then
          some (1 : Int)
        else
          some (0 : Int)

noncomputable def k94_0 : List (Known Try.prog E) := [Known.of envOk [1] [.keep] v111_0 F111_0 w111_0 ok111_0]
noncomputable def L94_0 (n id : Nat) (st : St G) : Option Int := none
set_option maxRecDepth 100000 in
theorem e94_0 (n : Nat) (v : Int × Int) : ev Try.prog E (oracle k94_0) Try.f94.ntmps (fun x => mem x []) (L94_0 n) (finA Try.prog E Try.f94.results.toList [] w94_0.alts) 4000 [.code (Try.f94.body.getD .skip)] (argSt (v94_0.enc v)) = F94_0 v := by kernel_rfl
theorem ok94_0 : FnOk Try.prog E 94 v94_0.enc F94_0 w94_0.enc :=
  fn_known (fn := Try.f94) (c := (Try.f94.body.getD .skip)) Try.func94 (by kernel_rfl) rfl envOk (oracle_ok k94_0) mixed v94_0 F94_0 w94_0 [] [] 4000 L94_0 (by kernel_rfl)
    (fun _ h => nomatch h) (fun v _ h => ⟨0, (e94_0 _ v).trans h⟩) (fun _ => by kernel_rfl) (fun _ => by kernel_rfl) (fun _ _ => by kernel_rfl)
/- cmp.isNaN[uint64] -/
abbrev A112_0 : Type := Int
abbrev R112_0 : Type := Bool
def v112_0 : Pk G Int := (Pk.fst (pk (Sh.fst (Sh.cons (Sh.int .u64) Sh.nil)) Sh.hnil))
def w112_0 : Wk G Bool := (Wk.one [.keep] (Pk.fst (pk (Sh.fst (Sh.cons Sh.bool Sh.nil)) Sh.hnil)))
def F112_0 (v : Int) : Option Bool :=
  some (v != v)

noncomputable def k112_0 : List (Known Try.prog E) := []
noncomputable def L112_0 (n id : Nat) (st : St G) : Option Bool := none
set_option maxRecDepth 100000 in
theorem e112_0 (n : Nat) (v : Int) : ev Try.prog E (oracle k112_0) Try.f112.ntmps (fun x => mem x []) (L112_0 n) (finA Try.prog E Try.f112.results.toList [] w112_0.alts) 4000 [.code (Try.f112.body.getD .skip)] (argSt (v112_0.enc v)) = F112_0 v := by kernel_rfl
theorem ok112_0 : FnOk Try.prog E 112 v112_0.enc F112_0 w112_0.enc :=
  fn_known (fn := Try.f112) (c := (Try.f112.body.getD .skip)) Try.func112 (by kernel_rfl) rfl envOk (oracle_ok k112_0) mixed v112_0 F112_0 w112_0 [] [] 4000 L112_0 (by kernel_rfl)
    (fun _ h => nomatch h) (fun v _ h => ⟨0, (e112_0 _ v).trans h⟩) (fun _ => by kernel_rfl) (fun _ => by kernel_rfl) (fun _ _ => by kernel_rfl)
/- cmp.Compare[uint64] -/
abbrev A95_0 : Type := Int × Int
abbrev R95_0 : Type := Int
def v95_0 : Pk G (Int × Int) := (Pk.fst (pk (Sh.cons (Sh.int .u64) (Sh.fst (Sh.cons (Sh.int .u64) Sh.nil))) Sh.hnil))
def w95_0 : Wk G Int := (Wk.one [.keep] (Pk.fst (pk (Sh.fst (Sh.cons (Sh.int .i64) Sh.nil)) Sh.hnil)))
def F95_0 (v : Int × Int) : Option Int :=
  (F112_0 v.1).bind fun r191 =>
  (F112_0 v.2).bind fun r192 =>
  bif r191 then
    bif r192 then
      some (0 : Int)
    else
      some (-1 : Int)
  else
    bif r192 then
      some (1 : Int)
    else
      bif (decide (v.1 < v.2)) then
        some (-1 : Int)
      else
        bif (decide (v.1 > v.2)) then
          some (1 : Int)
        else
          some (0 : Int)

noncomputable def k95_0 : List (Known Try.prog E) := [Known.of envOk [1] [.keep] v112_0 F112_0 w112_0 ok112_0]
noncomputable def L95_0 (n id : Nat) (st : St G) : Option Int := none
set_option maxRecDepth 100000 in
theorem e95_0 (n : Nat) (v : Int × Int) : ev Try.prog E (oracle k95_0) Try.f95.ntmps (fun x => mem x []) (L95_0 n) (finA Try.prog E Try.f95.results.toList [] w95_0.alts) 4000 [.code (Try.f95.body.getD .skip)] (argSt (v95_0.enc v)) = F95_0 v := by kernel_rfl
theorem ok95_0 : FnOk Try.prog E 95 v95_0.enc F95_0 w95_0.enc :=
  fn_known (fn := Try.f95) (c := (Try.f95.body.getD .skip)) Try.func95 (by kernel_rfl) rfl envOk (oracle_ok k95_0) mixed v95_0 F95_0 w95_0 [] [] 4000 L95_0 (by kernel_rfl)
    (fun _ h => nomatch h) (fun v _ h => ⟨0, (e95_0 _ v).trans h⟩) (fun _ => by kernel_rfl) (fun _ => by kernel_rfl) (fun _ _ => by kernel_rfl)
/- cmp.Or[int] -/
abbrev A93_0 : Type := List Int
abbrev R93_0 : Type := Int
def v93_0 : Pk G (List Int) := (Pk.fst (pk (Sh.fst (Sh.cons (Sh.ros 3) Sh.nil)) Sh.hnil))
def w93_0 : Wk G Int := (Wk.one [.keep] (Pk.fst (pk (Sh.fst (Sh.cons (Sh.int .i64) Sh.nil)) Sh.hnil)))
def c93_0_3 : Pk G (Int × List Int × Int × Int) := (Pk.fst (pk (Sh.cons (Sh.int .i64) (Sh.cons (Sh.ros 3) (Sh.cons (Sh.int .i64) (Sh.fst (Sh.cons (Sh.int .i64) Sh.nil))))) Sh.hnil))
def B93_0_3 (K : ((Int × List Int × Int × Int) → Option Int)) (v : Int × List Int × Int × Int) : Option Int :=
  bif (decide (v.2.2.2 < v.2.2.1)) then
    (rdx v.2.1 v.2.2.2).bind fun (x200 : Int) =>
    bif (x200 != v.1) then
      some (x200)
    else
      let x201 : Int := (IntKind.wrap .i64 (v.2.2.2 + (1 : Int)))
      K (v.1, (v.2.1, (v.2.2.1, x201)))
  else
    some (v.1)

def E93_0 (K : ((Int × List Int × Int × Int) → Option Int)) (v : List Int) : Option Int :=
  K ((0 : Int), (v, (((v).length : Int), (0 : Int))))

def K93_0 : Nat → ((Int × List Int × Int × Int) → Option Int)
  | 0 => (fun _ => none)
  | n + 1 => (B93_0_3 (K93_0 n))
def fuel93_0 (v : List Int) : Nat := 1000
def F93_0 (v : List Int) : Option Int := E93_0 (K93_0 (fuel93_0 v)) v
noncomputable def k93_0 : List (Known Try.prog E) := []
def s93_0_3 : List (Nat × Pat) := [(3, .keep), (6, (.ros 3)), (7, .keep), (8, .keep)]
noncomputable def L93_0 (n id : Nat) (st : St G) : Option Int := match Nat.beq id 3 with | true => cutK Try.prog s93_0_3 [] c93_0_3.dec (K93_0 n) st | false => none
set_option maxRecDepth 100000 in
theorem e93_0 (n : Nat) (v : List Int) : ev Try.prog E (oracle k93_0) Try.f93.ntmps (fun x => mem x [3]) (L93_0 n) (finA Try.prog E Try.f93.results.toList [] w93_0.alts) 4000 [.code (Try.f93.body.getD .skip)] (argSt (v93_0.enc v)) = E93_0 (K93_0 n) v := by kernel_rfl
set_option maxRecDepth 100000 in
theorem b93_0_3 (n : Nat) (v : Int × List Int × Int × Int) : evCut Try.prog E (oracle k93_0) Try.f93.ntmps (fun x => mem x [3]) (L93_0 n) (finA Try.prog E Try.f93.results.toList [] w93_0.alts) 4000 (todoAt (Try.f93.body.getD .skip) 3) (cutSt s93_0_3 (c93_0_3.enc v)) = B93_0_3 (K93_0 n) v := by kernel_rfl
theorem ok93_0 : FnOk Try.prog E 93 v93_0.enc F93_0 w93_0.enc :=
  fn_known (fn := Try.f93) (c := (Try.f93.body.getD .skip)) Try.func93 (by kernel_rfl) rfl envOk (oracle_ok k93_0) mixed v93_0 F93_0 w93_0 [] [3] 4000 L93_0 (by kernel_rfl)
    (List.forall_mem_cons.2 ⟨⟨_, s93_0_3, c93_0_3.dec, c93_0_3.enc, fun n => (K93_0 n), c93_0_3.ok, fun _ _ => rfl, fun _ => rfl, fun n v _ h => (b93_0_3 n v).trans h⟩, fun _ h => (nomatch h)⟩) (fun v _ h => ⟨fuel93_0 v, (e93_0 _ v).trans h⟩) (fun _ => by kernel_rfl) (fun _ => by kernel_rfl) (fun _ _ => by kernel_rfl)
/- chicane/wide.Cmp -/
abbrev A63_0 : Type := (Int × Int) × Int × Int
abbrev R63_0 : Type := Int
def v63_0 : Pk G ((Int × Int) × Int × Int) := (Pk.fst (pk (Sh.cons (Sh.agg (Sh.cons (Sh.int .i64) (Sh.fst (Sh.cons (Sh.int .u64) Sh.nil)))) (Sh.fst (Sh.cons (Sh.agg (Sh.cons (Sh.int .i64) (Sh.fst (Sh.cons (Sh.int .u64) Sh.nil)))) Sh.nil))) Sh.hnil))
def w63_0 : Wk G Int := (Wk.one [.keep] (Pk.fst (pk (Sh.fst (Sh.cons (Sh.int .i64) Sh.nil)) Sh.hnil)))
def F63_0 (v : (Int × Int) × Int × Int) : Option Int :=
  (F94_0 (v.1.1, v.2.1)).bind fun r206 =>
  (F95_0 (v.1.2, v.2.2)).bind fun r207 =>
  (F93_0 ([r206, r207] : List Int)).bind fun r208 =>
  some (r208)

noncomputable def k63_0 : List (Known Try.prog E) := [Known.of envOk [1, 1] [.keep, .keep] v94_0 F94_0 w94_0 ok94_0, Known.of envOk [1, 1] [.keep, .keep] v95_0 F95_0 w95_0 ok95_0, Known.of envOk [7] [(.ros 3)] v93_0 F93_0 w93_0 ok93_0]
noncomputable def L63_0 (n id : Nat) (st : St G) : Option Int := none
set_option maxRecDepth 100000 in
theorem e63_0 (n : Nat) (v : (Int × Int) × Int × Int) : ev Try.prog E (oracle k63_0) Try.f63.ntmps (fun x => mem x []) (L63_0 n) (finA Try.prog E Try.f63.results.toList [] w63_0.alts) 4000 [.code (Try.f63.body.getD .skip)] (argSt (v63_0.enc v)) = F63_0 v := by kernel_rfl
theorem ok63_0 : FnOk Try.prog E 63 v63_0.enc F63_0 w63_0.enc :=
  fn_known (fn := Try.f63) (c := (Try.f63.body.getD .skip)) Try.func63 (by kernel_rfl) rfl envOk (oracle_ok k63_0) mixed v63_0 F63_0 w63_0 [] [] 4000 L63_0 (by kernel_rfl)
    (fun _ h => nomatch h) (fun v _ h => ⟨0, (e63_0 _ v).trans h⟩) (fun _ => by kernel_rfl) (fun _ => by kernel_rfl) (fun _ _ => by kernel_rfl)
/- (chicane/wide.size).below -/
abbrev A64_0 : Type := (Int × Int) × Int × Int
abbrev R64_0 : Type := Bool
def v64_0 : Pk G ((Int × Int) × Int × Int) := (Pk.fst (pk (Sh.cons (Sh.agg (Sh.cons (Sh.int .u64) (Sh.fst (Sh.cons (Sh.int .u64) Sh.nil)))) (Sh.fst (Sh.cons (Sh.agg (Sh.cons (Sh.int .u64) (Sh.fst (Sh.cons (Sh.int .u64) Sh.nil)))) Sh.nil))) Sh.hnil))
def w64_0 : Wk G Bool := (Wk.one [.keep] (Pk.fst (pk (Sh.fst (Sh.cons Sh.bool Sh.nil)) Sh.hnil)))
def F64_0 (v : (Int × Int) × Int × Int) : Option Bool :=
  bif (decide (v.1.1 < v.2.1)) then
    some (true)
  else
    bif (v.1.1 == v.2.1) then
      some (decide (v.1.2 < v.2.2))
    else
      some (false)

noncomputable def k64_0 : List (Known Try.prog E) := []
noncomputable def L64_0 (n id : Nat) (st : St G) : Option Bool := none
set_option maxRecDepth 100000 in
theorem e64_0 (n : Nat) (v : (Int × Int) × Int × Int) : ev Try.prog E (oracle k64_0) Try.f64.ntmps (fun x => mem x []) (L64_0 n) (finA Try.prog E Try.f64.results.toList [] w64_0.alts) 4000 [.code (Try.f64.body.getD .skip)] (argSt (v64_0.enc v)) = F64_0 v := by kernel_rfl
theorem ok64_0 : FnOk Try.prog E 64 v64_0.enc F64_0 w64_0.enc :=
  fn_known (fn := Try.f64) (c := (Try.f64.body.getD .skip)) Try.func64 (by kernel_rfl) rfl envOk (oracle_ok k64_0) mixed v64_0 F64_0 w64_0 [] [] 4000 L64_0 (by kernel_rfl)
    (fun _ h => nomatch h) (fun v _ h => ⟨0, (e64_0 _ v).trans h⟩) (fun _ => by kernel_rfl) (fun _ => by kernel_rfl) (fun _ _ => by kernel_rfl)
/- chicane/wide.Part -/
abbrev A29_0 : Type := (Int × Int) × Int × Int
abbrev R29_0 : Type := Int
def v29_0 : Pk G ((Int × Int) × Int × Int) := (Pk.fst (pk (Sh.cons (Sh.agg (Sh.cons (Sh.int .i64) (Sh.fst (Sh.cons (Sh.int .u64) Sh.nil)))) (Sh.fst (Sh.cons (Sh.agg (Sh.cons (Sh.int .i64) (Sh.fst (Sh.cons (Sh.int .u64) Sh.nil)))) Sh.nil))) Sh.hnil))
def w29_0 : Wk G Int := (Wk.one [.keep] (Pk.fst (pk (Sh.fst (Sh.cons (Sh.int .u32) Sh.nil)) Sh.hnil)))
def c29_0_6 : Pk G ((Int × Int) × (Int × Int) × Int × Int) := (pk (Sh.snd (Sh.cons (Sh.ptr 0 0) (Sh.snd (Sh.cons (Sh.ptr 1 0) (Sh.cons (Sh.int .u32) (Sh.fst (Sh.cons (Sh.int .i64) Sh.nil))))))) (Sh.hfix 1 124 (Sh.cons (Sh.int .u64) (Sh.fst (Sh.cons (Sh.int .u64) Sh.nil))) (Sh.fst (Sh.hfix 0 124 (Sh.cons (Sh.int .u64) (Sh.fst (Sh.cons (Sh.int .u64) Sh.nil))) Sh.hnil))))
def B29_0_6 (K : (((Int × Int) × (Int × Int) × Int × Int) → Option Int)) (v : (Int × Int) × (Int × Int) × Int × Int) : Option Int :=
  bif (decide (v.1.2 < (32 : Int))) then
    let x242 : Int := (IntKind.wrap .u64 (v.2.2.1 * 2 ^ 1))
    let x243 : Int := (Int.fdiv v.2.2.2 (2 ^ 63))
    let x244 : Int := (Go.bits .or .u64 x242 x243)
    let x245 : Int := (IntKind.wrap .u64 (v.2.2.2 * 2 ^ 1))
    let x246 : Int := (IntKind.wrap .u32 (v.1.1 * 2 ^ 1))
    (F64_0 ((x244, x245), v.2.1)).bind fun r247 =>
    bif (!r247) then
      (F65_x (x245, (v.2.1.2, (0 : Int)))).bind fun r248 =>
      (F65_x (x244, (v.2.1.1, r248.2))).bind fun r249 =>
      let x250 : Int := (Go.bits .or .u32 x246 (1 : Int))
      let x251 : Int := (IntKind.wrap .i64 (v.1.2 + (1 : Int)))
      K ((x250, x251), (v.2.1, (r249.1, r248.1)))
    else
      let x252 : Int := (IntKind.wrap .i64 (v.1.2 + (1 : Int)))
      K ((x246, x252), (v.2.1, (x244, x245)))
  else
    some (v.1.1)

def E29_0 (K : (((Int × Int) × (Int × Int) × Int × Int) → Option Int)) (v : (Int × Int) × Int × Int) : Option Int :=
  bif (decide (v.1.1 < (0 : Int))) then
    some (0 : Int)
  else
    (F63_0 v).bind fun r239 =>
    bif (decide (r239 ≥ (0 : Int))) then
      some (0 : Int)
    else
      let x240 : Int := (IntKind.wrap .u64 v.1.1)
      let x241 : Int := (IntKind.wrap .u64 v.2.1)
      K (((0 : Int), (0 : Int)), ((x241, v.2.2), (x240, v.1.2)))

def K29_0 : Nat → (((Int × Int) × (Int × Int) × Int × Int) → Option Int)
  | 0 => (fun _ => none)
  | n + 1 => (B29_0_6 (K29_0 n))
def fuel29_0 (v : (Int × Int) × Int × Int) : Nat := 1000
def F29_0 (v : (Int × Int) × Int × Int) : Option Int := E29_0 (K29_0 (fuel29_0 v)) v
noncomputable def k29_0 : List (Known Try.prog E) := [Known.of envOk [9, 9] [(.agg [.keep, .keep]), (.agg [.keep, .keep])] v63_0 F63_0 w63_0 ok63_0, Known.of envOk [9, 9] [(.agg [.keep, .keep]), (.agg [.keep, .keep])] v64_0 F64_0 w64_0 ok64_0, Known.of envOk [1, 1, 1] [.keep, .keep, .keep] v65_x F65_x w65_x ok65_x]
def s29_0_6 : List (Nat × Pat) := [(5, (.ptr 0 0 124 [.keep, .keep])), (6, (.ptr 1 0 124 [.keep, .keep])), (7, .keep), (33, .keep)]
noncomputable def L29_0 (n id : Nat) (st : St G) : Option Int := match Nat.beq id 6 with | true => cutK Try.prog s29_0_6 [] c29_0_6.dec (K29_0 n) st | false => none
set_option maxRecDepth 100000 in
theorem e29_0 (n : Nat) (v : (Int × Int) × Int × Int) : ev Try.prog E (oracle k29_0) Try.f29.ntmps (fun x => mem x [6]) (L29_0 n) (finA Try.prog E Try.f29.results.toList [] w29_0.alts) 4000 [.code (Try.f29.body.getD .skip)] (argSt (v29_0.enc v)) = E29_0 (K29_0 n) v := by kernel_rfl
set_option maxRecDepth 100000 in
theorem b29_0_6 (n : Nat) (v : (Int × Int) × (Int × Int) × Int × Int) : evCut Try.prog E (oracle k29_0) Try.f29.ntmps (fun x => mem x [6]) (L29_0 n) (finA Try.prog E Try.f29.results.toList [] w29_0.alts) 4000 (todoAt (Try.f29.body.getD .skip) 6) (cutSt s29_0_6 (c29_0_6.enc v)) = B29_0_6 (K29_0 n) v := by kernel_rfl
theorem ok29_0 : FnOk Try.prog E 29 v29_0.enc F29_0 w29_0.enc :=
  fn_known (fn := Try.f29) (c := (Try.f29.body.getD .skip)) Try.func29 (by kernel_rfl) rfl envOk (oracle_ok k29_0) mixed v29_0 F29_0 w29_0 [] [6] 4000 L29_0 (by kernel_rfl)
    (List.forall_mem_cons.2 ⟨⟨_, s29_0_6, c29_0_6.dec, c29_0_6.enc, fun n => (K29_0 n), c29_0_6.ok, fun _ _ => rfl, fun _ => rfl, fun n v _ h => (b29_0_6 n v).trans h⟩, fun _ h => (nomatch h)⟩) (fun v _ h => ⟨fuel29_0 v, (e29_0 _ v).trans h⟩) (fun _ => by kernel_rfl) (fun _ => by kernel_rfl) (fun _ _ => by kernel_rfl)
/- chicane/ghost.When -/
abbrev A12_0 : Type := List Int × Int
abbrev R12_0 : Type := Int × Bool
def v12_0 : Pk G (List Int × Int) := (Pk.fst (pk (Sh.cons (Sh.ros 23) (Sh.fst (Sh.cons (Sh.int .i64) Sh.nil))) Sh.hnil))
def w12_0 : Wk G (Int × Bool) := (Wk.one [.keep, .keep] (Pk.fst (pk (Sh.cons (Sh.int .i64) (Sh.fst (Sh.cons Sh.bool Sh.nil))) Sh.hnil)))
def F12_0 (v : List Int × Int) : Option (Int × Bool) :=
  (F28_0 v).bind fun r273 =>
  bif (r273 == ((v.1).length : Int)) then
    some ((0 : Int), false)
  else
    bif (r273 == (0 : Int)) then
      some ((0 : Int), true)
    else
      (rdx v.1 r273).bind fun (x274 : Int) =>
      bif (x274 == v.2) then
        let x275 : Int := (IntKind.wrap .i64 (r273 * 2 ^ 32))
        some (x275, true)
      else
        let x276 : Int := (IntKind.wrap .i64 (r273 - (1 : Int)))
        (rdx v.1 x276).bind fun (x277 : Int) =>
        (F30_0 (x277, v.2)).bind fun r278 =>
        let x279 : Int := (IntKind.wrap .i64 (r273 - (1 : Int)))
        (rdx v.1 x279).bind fun (x280 : Int) =>
        (rdx v.1 r273).bind fun (x281 : Int) =>
        (F30_0 (x280, x281)).bind fun r282 =>
        (F29_0 (r278, r282)).bind fun r283 =>
        let x284 : Int := (IntKind.wrap .i64 (r273 - (1 : Int)))
        let x285 : Int := (IntKind.wrap .i64 (x284 * 2 ^ 32))
        let x286 : Int := (IntKind.wrap .i64 r283)
        let x287 : Int := (IntKind.wrap .i64 (x285 + x286))
        some (x287, true)

noncomputable def k12_0 : List (Known Try.prog E) := [Known.of envOk [7, 1] [(.ros 23), .keep] v28_0 F28_0 w28_0 ok28_0, Known.of envOk [1, 1] [.keep, .keep] v30_0 F30_0 w30_0 ok30_0, Known.of envOk [9, 9] [(.agg [.keep, .keep]), (.agg [.keep, .keep])] v29_0 F29_0 w29_0 ok29_0]
noncomputable def L12_0 (n id : Nat) (st : St G) : Option (Int × Bool) := none
set_option maxRecDepth 100000 in
theorem e12_0 (n : Nat) (v : List Int × Int) : ev Try.prog E (oracle k12_0) Try.f12.ntmps (fun x => mem x []) (L12_0 n) (finA Try.prog E Try.f12.results.toList [] w12_0.alts) 4000 [.code (Try.f12.body.getD .skip)] (argSt (v12_0.enc v)) = F12_0 v := by kernel_rfl
theorem ok12_0 : FnOk Try.prog E 12 v12_0.enc F12_0 w12_0.enc :=
  fn_known (fn := Try.f12) (c := (Try.f12.body.getD .skip)) Try.func12 (by kernel_rfl) rfl envOk (oracle_ok k12_0) mixed v12_0 F12_0 w12_0 [] [] 4000 L12_0 (by kernel_rfl)
    (fun _ h => nomatch h) (fun v _ h => ⟨0, (e12_0 _ v).trans h⟩) (fun _ => by kernel_rfl) (fun _ => by kernel_rfl) (fun _ _ => by kernel_rfl)
/- chicane/ghost.Gap -/
abbrev A14_0 : Type := List Int × Int × Int
abbrev R14_0 : Type := Int × Bool
def v14_0 : Pk G (List Int × Int × Int) := (Pk.fst (pk (Sh.cons (Sh.ros 23) (Sh.cons (Sh.int .i64) (Sh.fst (Sh.cons (Sh.int .i64) Sh.nil)))) Sh.hnil))
def w14_0 : Wk G (Int × Bool) := (Wk.one [.keep, .keep] (Pk.fst (pk (Sh.cons (Sh.int .i64) (Sh.fst (Sh.cons Sh.bool Sh.nil))) Sh.hnil)))
def F14_0 (v : List Int × Int × Int) : Option (Int × Bool) :=
  (F12_0 (v.1, v.2.2)).bind fun r297 =>
  bif (!r297.2) then
    some ((0 : Int), false)
  else
    bif (decide (v.2.1 < (0 : Int))) then
      some ((0 : Int), false)
    else
      bif (decide (v.2.1 > (16777216 : Int))) then
        some ((0 : Int), false)
      else
        let x298 : Int := (IntKind.wrap .i64 (v.2.1 * 2 ^ 32))
        let x299 : Int := (IntKind.wrap .i64 (x298 - r297.1))
        some (x299, true)

noncomputable def k14_0 : List (Known Try.prog E) := [Known.of envOk [7, 1] [(.ros 23), .keep] v12_0 F12_0 w12_0 ok12_0]
noncomputable def L14_0 (n id : Nat) (st : St G) : Option (Int × Bool) := none
set_option maxRecDepth 100000 in
theorem e14_0 (n : Nat) (v : List Int × Int × Int) : ev Try.prog E (oracle k14_0) Try.f14.ntmps (fun x => mem x []) (L14_0 n) (finA Try.prog E Try.f14.results.toList [] w14_0.alts) 4000 [.code (Try.f14.body.getD .skip)] (argSt (v14_0.enc v)) = F14_0 v := by kernel_rfl
theorem ok14_0 : FnOk Try.prog E 14 v14_0.enc F14_0 w14_0.enc :=
  fn_known (fn := Try.f14) (c := (Try.f14.body.getD .skip)) Try.func14 (by kernel_rfl) rfl envOk (oracle_ok k14_0) mixed v14_0 F14_0 w14_0 [] [] 4000 L14_0 (by kernel_rfl)
    (fun _ h => nomatch h) (fun v _ h => ⟨0, (e14_0 _ v).trans h⟩) (fun _ => by kernel_rfl) (fun _ => by kernel_rfl) (fun _ _ => by kernel_rfl)
/- chicane/chicanelaw42.awake -/
abbrev A13_0 : Type := Unit
abbrev R13_0 : Type := Bool
def v13_0 : Pk G Unit := (Pk.snd (pk Sh.nil Sh.hnil))
def w13_0 : Wk G Bool := (Wk.one [.keep] (Pk.fst (pk (Sh.fst (Sh.cons Sh.bool Sh.nil)) Sh.hnil)))
def F13_0 (v : Unit) : Option Bool :=
  (F12_0 (([(0 : Int), (17179869184 : Int), (34359738368 : Int)] : List Int), (25769803776 : Int))).bind fun r307 =>
  (F14_0 (([(0 : Int), (17179869184 : Int), (34359738368 : Int)] : List Int), ((2 : Int), (17179869184 : Int)))).bind fun r308 =>
  (F12_0 (([(0 : Int), (17179869184 : Int), (34359738368 : Int)] : List Int), (38654705664 : Int))).bind fun r309 =>
  bif (r307.1 == (6442450944 : Int)) then
    bif r307.2 then
      bif (r308.1 == (4294967296 : Int)) then
        bif r308.2 then
          bif (!r309.2) then
            (F27_0 (([(0 : Int), (17179869184 : Int), (34359738368 : Int)] : List Int), (1 : Int))).bind fun r310 =>
            some (((r310).length : Int) == (4 : Int))
          else
            some (false)
        else
          some (false)
      else
        some (false)
    else
      some (false)
  else
    some (false)

noncomputable def k13_0 : List (Known Try.prog E) := [Known.of envOk [7, 1] [(.ros 23), .keep] v12_0 F12_0 w12_0 ok12_0, Known.of envOk [7, 1, 1] [(.ros 23), .keep, .keep] v14_0 F14_0 w14_0 ok14_0, Known.of envOk [7, 1] [(.ros 23), .keep] v27_0 F27_0 w27_0 ok27_0]
noncomputable def L13_0 (n id : Nat) (st : St G) : Option Bool := none
set_option maxRecDepth 100000 in
theorem e13_0 (n : Nat) (v : Unit) : ev Try.prog E (oracle k13_0) Try.f13.ntmps (fun x => mem x []) (L13_0 n) (finA Try.prog E Try.f13.results.toList [] w13_0.alts) 4000 [.code (Try.f13.body.getD .skip)] (argSt (v13_0.enc v)) = F13_0 v := by kernel_rfl
theorem ok13_0 : FnOk Try.prog E 13 v13_0.enc F13_0 w13_0.enc :=
  fn_known (fn := Try.f13) (c := (Try.f13.body.getD .skip)) Try.func13 (by kernel_rfl) rfl envOk (oracle_ok k13_0) mixed v13_0 F13_0 w13_0 [] [] 4000 L13_0 (by kernel_rfl)
    (fun _ h => nomatch h) (fun v _ h => ⟨0, (e13_0 _ v).trans h⟩) (fun _ => by kernel_rfl) (fun _ => by kernel_rfl) (fun _ _ => by kernel_rfl)
/- chicane/chicanelaw42.GhostRises -/
abbrev A3_0 : Type := List Int × Int × Int
abbrev R3_0 : Type := Bool
def v3_0 : Pk G (List Int × Int × Int) := (Pk.fst (pk (Sh.cons (Sh.ros 23) (Sh.cons (Sh.int .i64) (Sh.fst (Sh.cons (Sh.int .i64) Sh.nil)))) Sh.hnil))
def w3_0 : Wk G Bool := (Wk.one [.keep] (Pk.fst (pk (Sh.fst (Sh.cons Sh.bool Sh.nil)) Sh.hnil)))
def c3_0_7 : Pk G ((List Int × Int × Int × Int) × List Int) := (pk (Sh.cons (Sh.ros 23) (Sh.cons (Sh.int .i64) (Sh.cons (Sh.int .i64) (Sh.snd (Sh.cons (Sh.osl 0) (Sh.fst (Sh.cons (Sh.int .i64) Sh.nil))))))) (Sh.fst (Sh.hrow 0 23 Sh.hnil)))
def B3_0_7 (K : (((List Int × Int × Int × Int) × List Int) → Option Bool)) (v : (List Int × Int × Int × Int) × List Int) : Option Bool :=
  bif (decide (v.1.2.2.2 < ((v.2).length : Int))) then
    (idx v.1.2.2.2 (v.2).length).bind fun (x333 : Nat) =>
    ((v.2)[x333]?).bind fun (x334 : Int) =>
    let x335 : Int := (IntKind.wrap .i64 (v.1.2.2.2 - (1 : Int)))
    (idx x335 (v.2).length).bind fun (x336 : Nat) =>
    ((v.2)[x336]?).bind fun (x337 : Int) =>
    bif (decide (x334 < x337)) then
      some (false)
    else
      (idx v.1.2.2.2 (v.2).length).bind fun (x338 : Nat) =>
      ((v.2)[x338]?).bind fun (x339 : Int) =>
      (rdx v.1.1 v.1.2.2.2).bind fun (x340 : Int) =>
      bif (decide (x339 < x340)) then
        some (false)
      else
        let x341 : Int := (IntKind.wrap .i64 (v.1.2.2.2 + (1 : Int)))
        K ((v.1.1, (v.1.2.1, (v.1.2.2.1, x341))), v.2)
  else
    (F12_0 (v.2, v.1.2.1)).bind fun r342 =>
    (F12_0 (v.2, v.1.2.2.1)).bind fun r343 =>
    bif (!r343.2) then
      bif (!r343.2) then
        (F13_0 ()).bind fun r344 =>
        some (r344)
      else
        bif (decide (r342.1 ≤ r343.1)) then
          (F13_0 ()).bind fun r345 =>
          some (r345)
        else
          some (false)
    else
      bif r342.2 then
        bif (!r343.2) then
          (F13_0 ()).bind fun r346 =>
          some (r346)
        else
          bif (decide (r342.1 ≤ r343.1)) then
            (F13_0 ()).bind fun r347 =>
            some (r347)
          else
            some (false)
      else
        some (false)

def E3_0 (K : (((List Int × Int × Int × Int) × List Int) → Option Bool)) (v : List Int × Int × Int) : Option Bool :=
  bif (decide (((v.1).length : Int) > (200 : Int))) then
    some (true)
  else
    bif (decide (v.2.1 > v.2.2)) then
      some (true)
    else
      (F11_0 v.1).bind fun r332 =>
      bif (((r332).length : Int) != ((v.1).length : Int)) then
        some (false)
      else
        K ((v.1, (v.2.1, (v.2.2, (1 : Int)))), r332)

def K3_0 : Nat → (((List Int × Int × Int × Int) × List Int) → Option Bool)
  | 0 => (fun _ => none)
  | n + 1 => (B3_0_7 (K3_0 n))
def fuel3_0 (v : List Int × Int × Int) : Nat := 1000
def F3_0 (v : List Int × Int × Int) : Option Bool := E3_0 (K3_0 (fuel3_0 v)) v
noncomputable def k3_0 : List (Known Try.prog E) := [Known.of envOk [7] [(.ros 23)] v11_0 F11_0 w11_0 ok11_0, Known.of envOk [7, 1] [(.ros 23), .keep] v12_0 F12_0 w12_0 ok12_0, Known.of envOk [] [] v13_0 F13_0 w13_0 ok13_0]
def s3_0_7 : List (Nat × Pat) := [(0, (.ros 23)), (1, .keep), (2, .keep), (7, (.own 0 23)), (8, .keep)]
noncomputable def L3_0 (n id : Nat) (st : St G) : Option Bool := match Nat.beq id 7 with | true => cutK Try.prog s3_0_7 [] c3_0_7.dec (K3_0 n) st | false => none
set_option maxRecDepth 100000 in
theorem e3_0 (n : Nat) (v : List Int × Int × Int) : ev Try.prog E (oracle k3_0) Try.f3.ntmps (fun x => mem x [7]) (L3_0 n) (finA Try.prog E Try.f3.results.toList [] w3_0.alts) 4000 [.code (Try.f3.body.getD .skip)] (argSt (v3_0.enc v)) = E3_0 (K3_0 n) v := by kernel_rfl
set_option maxRecDepth 100000 in
theorem b3_0_7 (n : Nat) (v : (List Int × Int × Int × Int) × List Int) : evCut Try.prog E (oracle k3_0) Try.f3.ntmps (fun x => mem x [7]) (L3_0 n) (finA Try.prog E Try.f3.results.toList [] w3_0.alts) 4000 (todoAt (Try.f3.body.getD .skip) 7) (cutSt s3_0_7 (c3_0_7.enc v)) = B3_0_7 (K3_0 n) v := by kernel_rfl
theorem ok3_0 : FnOk Try.prog E 3 v3_0.enc F3_0 w3_0.enc :=
  fn_known (fn := Try.f3) (c := (Try.f3.body.getD .skip)) Try.func3 (by kernel_rfl) rfl envOk (oracle_ok k3_0) mixed v3_0 F3_0 w3_0 [] [7] 4000 L3_0 (by kernel_rfl)
    (List.forall_mem_cons.2 ⟨⟨_, s3_0_7, c3_0_7.dec, c3_0_7.enc, fun n => (K3_0 n), c3_0_7.ok, fun _ _ => rfl, fun _ => rfl, fun n v _ h => (b3_0_7 n v).trans h⟩, fun _ h => (nomatch h)⟩) (fun v _ h => ⟨fuel3_0 v, (e3_0 _ v).trans h⟩) (fun _ => by kernel_rfl) (fun _ => by kernel_rfl) (fun _ _ => by kernel_rfl)
/- chicane/chicanelaw42.GhostSame -/
abbrev A4_0 : Type := List Int
abbrev R4_0 : Type := Bool
def v4_0 : Pk G (List Int) := (Pk.fst (pk (Sh.fst (Sh.cons (Sh.ros 23) Sh.nil)) Sh.hnil))
def w4_0 : Wk G Bool := (Wk.one [.keep] (Pk.fst (pk (Sh.fst (Sh.cons Sh.bool Sh.nil)) Sh.hnil)))
def c4_0_5 : Pk G (Int × List Int) := (pk (Sh.snd (Sh.cons (Sh.osl 0) (Sh.fst (Sh.cons (Sh.int .i64) Sh.nil)))) (Sh.fst (Sh.hrow 0 23 Sh.hnil)))
def B4_0_5 (K : ((Int × List Int) → Option Bool)) (v : Int × List Int) : Option Bool :=
  bif (decide (v.1 < ((v.2).length : Int))) then
    (idx v.1 (v.2).length).bind fun (x377 : Nat) =>
    ((v.2)[x377]?).bind fun (x378 : Int) =>
    (F14_0 (v.2, (v.1, x378))).bind fun r379 =>
    bif (!r379.2) then
      some (false)
    else
      bif (decide (r379.1 < (0 : Int))) then
        some (false)
      else
        bif (v.1 == (0 : Int)) then
          bif (r379.1 != (0 : Int)) then
            some (false)
          else
            let x380 : Int := (IntKind.wrap .i64 (v.1 + (1 : Int)))
            K (x380, v.2)
        else
          (idx v.1 (v.2).length).bind fun (x381 : Nat) =>
          ((v.2)[x381]?).bind fun (x382 : Int) =>
          let x383 : Int := (IntKind.wrap .i64 (v.1 - (1 : Int)))
          (idx x383 (v.2).length).bind fun (x384 : Nat) =>
          ((v.2)[x384]?).bind fun (x385 : Int) =>
          bif (decide (x382 > x385)) then
            bif (r379.1 != (0 : Int)) then
              some (false)
            else
              let x386 : Int := (IntKind.wrap .i64 (v.1 + (1 : Int)))
              K (x386, v.2)
          else
            let x387 : Int := (IntKind.wrap .i64 (v.1 + (1 : Int)))
            K (x387, v.2)
  else
    (F13_0 ()).bind fun r388 =>
    some (r388)

def E4_0 (K : ((Int × List Int) → Option Bool)) (v : List Int) : Option Bool :=
  bif (decide (((v).length : Int) > (200 : Int))) then
    some (true)
  else
    (F11_0 v).bind fun r376 =>
    K ((0 : Int), r376)

def K4_0 : Nat → ((Int × List Int) → Option Bool)
  | 0 => (fun _ => none)
  | n + 1 => (B4_0_5 (K4_0 n))
def fuel4_0 (v : List Int) : Nat := 1000
def F4_0 (v : List Int) : Option Bool := E4_0 (K4_0 (fuel4_0 v)) v
noncomputable def k4_0 : List (Known Try.prog E) := [Known.of envOk [7] [(.ros 23)] v11_0 F11_0 w11_0 ok11_0, Known.of envOk [7, 1, 1] [(.ros 23), .keep, .keep] v14_0 F14_0 w14_0 ok14_0, Known.of envOk [] [] v13_0 F13_0 w13_0 ok13_0]
def s4_0_5 : List (Nat × Pat) := [(3, (.own 0 23)), (4, .keep)]
noncomputable def L4_0 (n id : Nat) (st : St G) : Option Bool := match Nat.beq id 5 with | true => cutK Try.prog s4_0_5 [] c4_0_5.dec (K4_0 n) st | false => none
set_option maxRecDepth 100000 in
theorem e4_0 (n : Nat) (v : List Int) : ev Try.prog E (oracle k4_0) Try.f4.ntmps (fun x => mem x [5]) (L4_0 n) (finA Try.prog E Try.f4.results.toList [] w4_0.alts) 4000 [.code (Try.f4.body.getD .skip)] (argSt (v4_0.enc v)) = E4_0 (K4_0 n) v := by kernel_rfl
set_option maxRecDepth 100000 in
theorem b4_0_5 (n : Nat) (v : Int × List Int) : evCut Try.prog E (oracle k4_0) Try.f4.ntmps (fun x => mem x [5]) (L4_0 n) (finA Try.prog E Try.f4.results.toList [] w4_0.alts) 4000 (todoAt (Try.f4.body.getD .skip) 5) (cutSt s4_0_5 (c4_0_5.enc v)) = B4_0_5 (K4_0 n) v := by kernel_rfl
theorem ok4_0 : FnOk Try.prog E 4 v4_0.enc F4_0 w4_0.enc :=
  fn_known (fn := Try.f4) (c := (Try.f4.body.getD .skip)) Try.func4 (by kernel_rfl) rfl envOk (oracle_ok k4_0) mixed v4_0 F4_0 w4_0 [] [5] 4000 L4_0 (by kernel_rfl)
    (List.forall_mem_cons.2 ⟨⟨_, s4_0_5, c4_0_5.dec, c4_0_5.enc, fun n => (K4_0 n), c4_0_5.ok, fun _ _ => rfl, fun _ => rfl, fun n v _ h => (b4_0_5 n v).trans h⟩, fun _ h => (nomatch h)⟩) (fun v _ h => ⟨fuel4_0 v, (e4_0 _ v).trans h⟩) (fun _ => by kernel_rfl) (fun _ => by kernel_rfl) (fun _ _ => by kernel_rfl)
/- chicane/spline.far -/
abbrev A78_0 : Type := Int × Int
abbrev R78_0 : Type := Bool
def v78_0 : Pk G (Int × Int) := (Pk.fst (pk (Sh.fst (Sh.cons (Sh.agg (Sh.cons (Sh.int .i64) (Sh.fst (Sh.cons (Sh.int .i64) Sh.nil)))) Sh.nil)) Sh.hnil))
def w78_0 : Wk G Bool := (Wk.one [.keep] (Pk.fst (pk (Sh.fst (Sh.cons Sh.bool Sh.nil)) Sh.hnil)))
def F78_0 (v : Int × Int) : Option Bool :=
  let x393 : Int := (if v.2 > v.1 then v.2 else v.1)
  bif (decide (x393 > (281474976710656 : Int))) then
    some (true)
  else
    let x394 : Int := (if v.2 < v.1 then v.2 else v.1)
    some (decide (x394 < (-281474976710656 : Int)))

noncomputable def k78_0 : List (Known Try.prog E) := []
noncomputable def L78_0 (n id : Nat) (st : St G) : Option Bool := none
set_option maxRecDepth 100000 in
theorem e78_0 (n : Nat) (v : Int × Int) : ev Try.prog E (oracle k78_0) Try.f78.ntmps (fun x => mem x []) (L78_0 n) (finA Try.prog E Try.f78.results.toList [] w78_0.alts) 4000 [.code (Try.f78.body.getD .skip)] (argSt (v78_0.enc v)) = F78_0 v := by kernel_rfl
theorem ok78_0 : FnOk Try.prog E 78 v78_0.enc F78_0 w78_0.enc :=
  fn_known (fn := Try.f78) (c := (Try.f78.body.getD .skip)) Try.func78 (by kernel_rfl) rfl envOk (oracle_ok k78_0) mixed v78_0 F78_0 w78_0 [] [] 4000 L78_0 (by kernel_rfl)
    (fun _ h => nomatch h) (fun v _ h => ⟨0, (e78_0 _ v).trans h⟩) (fun _ => by kernel_rfl) (fun _ => by kernel_rfl) (fun _ _ => by kernel_rfl)
/- slices.IndexFunc[[]chicane/api.V2,chicane/api.V2] -/
abbrev A100_0 : Type := List (Int × Int)
abbrev R100_0 : Type := Int
def v100_0 : Pk G (List (Int × Int)) := (Pk.fst (pk (Sh.fst (Sh.cons (Sh.ros 69) (Sh.snd (Sh.cons (Sh.snd (Sh.fn (.func 78) Sh.nil Sh.nil)) Sh.nil)))) Sh.hnil))
def w100_0 : Wk G Int := (Wk.one [.keep] (Pk.fst (pk (Sh.fst (Sh.cons (Sh.int .i64) Sh.nil)) Sh.hnil)))
def c100_0_2 : Pk G ((List (Int × Int)) × Int × Int) := (Pk.fst (pk (Sh.cons (Sh.ros 69) (Sh.snd (Sh.cons (Sh.snd (Sh.fn (.func 78) Sh.nil Sh.nil)) (Sh.cons (Sh.int .i64) (Sh.fst (Sh.cons (Sh.int .i64) Sh.nil)))))) Sh.hnil))
def B100_0_2 (K : (((List (Int × Int)) × Int × Int) → Option Int)) (v : (List (Int × Int)) × Int × Int) : Option Int :=
  bif (decide (v.2.2 < v.2.1)) then
    (rdx v.1 v.2.2).bind fun (x404 : Int × Int) =>
    (F78_0 x404).bind fun r405 =>
    bif r405 then
      some (v.2.2)
    else
      let x406 : Int := (IntKind.wrap .i64 (v.2.2 + (1 : Int)))
      K (v.1, (v.2.1, x406))
  else
    some (-1 : Int)

def E100_0 (K : (((List (Int × Int)) × Int × Int) → Option Int)) (v : List (Int × Int)) : Option Int :=
  K (v, (((v).length : Int), (0 : Int)))

def K100_0 : Nat → (((List (Int × Int)) × Int × Int) → Option Int)
  | 0 => (fun _ => none)
  | n + 1 => (B100_0_2 (K100_0 n))
def fuel100_0 (v : List (Int × Int)) : Nat := 1000
def F100_0 (v : List (Int × Int)) : Option Int := E100_0 (K100_0 (fuel100_0 v)) v
noncomputable def k100_0 : List (Known Try.prog E) := [Known.of envOk [9] [(.agg [.keep, .keep])] v78_0 F78_0 w78_0 ok78_0]
def s100_0_2 : List (Nat × Pat) := [(0, (.ros 69)), (1, (.fn (.func 78) [] [])), (7, .keep), (8, .keep)]
noncomputable def L100_0 (n id : Nat) (st : St G) : Option Int := match Nat.beq id 2 with | true => cutK Try.prog s100_0_2 [] c100_0_2.dec (K100_0 n) st | false => none
set_option maxRecDepth 100000 in
theorem e100_0 (n : Nat) (v : List (Int × Int)) : ev Try.prog E (oracle k100_0) Try.f100.ntmps (fun x => mem x [2]) (L100_0 n) (finA Try.prog E Try.f100.results.toList [] w100_0.alts) 4000 [.code (Try.f100.body.getD .skip)] (argSt (v100_0.enc v)) = E100_0 (K100_0 n) v := by kernel_rfl
set_option maxRecDepth 100000 in
theorem b100_0_2 (n : Nat) (v : (List (Int × Int)) × Int × Int) : evCut Try.prog E (oracle k100_0) Try.f100.ntmps (fun x => mem x [2]) (L100_0 n) (finA Try.prog E Try.f100.results.toList [] w100_0.alts) 4000 (todoAt (Try.f100.body.getD .skip) 2) (cutSt s100_0_2 (c100_0_2.enc v)) = B100_0_2 (K100_0 n) v := by kernel_rfl
theorem ok100_0 : FnOk Try.prog E 100 v100_0.enc F100_0 w100_0.enc :=
  fn_known (fn := Try.f100) (c := (Try.f100.body.getD .skip)) Try.func100 (by kernel_rfl) rfl envOk (oracle_ok k100_0) mixed v100_0 F100_0 w100_0 [] [2] 4000 L100_0 (by kernel_rfl)
    (List.forall_mem_cons.2 ⟨⟨_, s100_0_2, c100_0_2.dec, c100_0_2.enc, fun n => (K100_0 n), c100_0_2.ok, fun _ _ => rfl, fun _ => rfl, fun n v _ h => (b100_0_2 n v).trans h⟩, fun _ h => (nomatch h)⟩) (fun v _ h => ⟨fuel100_0 v, (e100_0 _ v).trans h⟩) (fun _ => by kernel_rfl) (fun _ => by kernel_rfl) (fun _ _ => by kernel_rfl)
/- slices.ContainsFunc[[]chicane/api.V2,chicane/api.V2] -/
abbrev A79_0 : Type := List (Int × Int)
abbrev R79_0 : Type := Bool
def v79_0 : Pk G (List (Int × Int)) := (Pk.fst (pk (Sh.fst (Sh.cons (Sh.ros 69) (Sh.snd (Sh.cons (Sh.snd (Sh.fn (.func 78) Sh.nil Sh.nil)) Sh.nil)))) Sh.hnil))
def w79_0 : Wk G Bool := (Wk.one [.keep] (Pk.fst (pk (Sh.fst (Sh.cons Sh.bool Sh.nil)) Sh.hnil)))
def F79_0 (v : List (Int × Int)) : Option Bool :=
  (F100_0 v).bind fun r409 =>
  some (decide (r409 ≥ (0 : Int)))

noncomputable def k79_0 : List (Known Try.prog E) := [Known.of envOk [7, 178] [(.ros 69), (.fn (.func 78) [] [])] v100_0 F100_0 w100_0 ok100_0]
noncomputable def L79_0 (n id : Nat) (st : St G) : Option Bool := none
set_option maxRecDepth 100000 in
theorem e79_0 (n : Nat) (v : List (Int × Int)) : ev Try.prog E (oracle k79_0) Try.f79.ntmps (fun x => mem x []) (L79_0 n) (finA Try.prog E Try.f79.results.toList [] w79_0.alts) 4000 [.code (Try.f79.body.getD .skip)] (argSt (v79_0.enc v)) = F79_0 v := by kernel_rfl
theorem ok79_0 : FnOk Try.prog E 79 v79_0.enc F79_0 w79_0.enc :=
  fn_known (fn := Try.f79) (c := (Try.f79.body.getD .skip)) Try.func79 (by kernel_rfl) rfl envOk (oracle_ok k79_0) mixed v79_0 F79_0 w79_0 [] [] 4000 L79_0 (by kernel_rfl)
    (fun _ h => nomatch h) (fun v _ h => ⟨0, (e79_0 _ v).trans h⟩) (fun _ => by kernel_rfl) (fun _ => by kernel_rfl) (fun _ _ => by kernel_rfl)
/- math/bits.Mul64 -/
abbrev A98_0 : Type := Int × Int
abbrev R98_0 : Type := Int × Int
def v98_0 : Pk G (Int × Int) := (Pk.fst (pk (Sh.cons (Sh.int .u64) (Sh.fst (Sh.cons (Sh.int .u64) Sh.nil))) Sh.hnil))
def w98_0 : Wk G (Int × Int) := (Wk.one [.keep, .keep] (Pk.fst (pk (Sh.cons (Sh.int .u64) (Sh.fst (Sh.cons (Sh.int .u64) Sh.nil))) Sh.hnil)))
def F98_0 (v : Int × Int) : Option (Int × Int) :=
  let x451 : Int := (Go.bits .and .u64 v.1 (4294967295 : Int))
  let x452 : Int := (Int.fdiv v.1 (2 ^ 32))
  let x453 : Int := (Go.bits .and .u64 v.2 (4294967295 : Int))
  let x454 : Int := (Int.fdiv v.2 (2 ^ 32))
  let x455 : Int := (IntKind.wrap .u64 (x451 * x453))
  let x456 : Int := (IntKind.wrap .u64 (x452 * x453))
  let x457 : Int := (Int.fdiv x455 (2 ^ 32))
  let x458 : Int := (IntKind.wrap .u64 (x456 + x457))
  let x459 : Int := (Go.bits .and .u64 x458 (4294967295 : Int))
  let x460 : Int := (Int.fdiv x458 (2 ^ 32))
  let x461 : Int := (IntKind.wrap .u64 (x451 * x454))
  let x462 : Int := (IntKind.wrap .u64 (x459 + x461))
  let x463 : Int := (IntKind.wrap .u64 (x452 * x454))
  let x464 : Int := (IntKind.wrap .u64 (x463 + x460))
  let x465 : Int := (Int.fdiv x462 (2 ^ 32))
  let x466 : Int := (IntKind.wrap .u64 (x464 + x465))
  let x467 : Int := (IntKind.wrap .u64 (v.1 * v.2))
  some (x466, x467)

noncomputable def k98_0 : List (Known Try.prog E) := []
noncomputable def L98_0 (n id : Nat) (st : St G) : Option (Int × Int) := none
set_option maxRecDepth 100000 in
theorem e98_0 (n : Nat) (v : Int × Int) : ev Try.prog E (oracle k98_0) Try.f98.ntmps (fun x => mem x []) (L98_0 n) (finA Try.prog E Try.f98.results.toList [] w98_0.alts) 4000 [.code (Try.f98.body.getD .skip)] (argSt (v98_0.enc v)) = F98_0 v := by kernel_rfl
theorem ok98_0 : FnOk Try.prog E 98 v98_0.enc F98_0 w98_0.enc :=
  fn_known (fn := Try.f98) (c := (Try.f98.body.getD .skip)) Try.func98 (by kernel_rfl) rfl envOk (oracle_ok k98_0) mixed v98_0 F98_0 w98_0 [] [] 4000 L98_0 (by kernel_rfl)
    (fun _ h => nomatch h) (fun v _ h => ⟨0, (e98_0 _ v).trans h⟩) (fun _ => by kernel_rfl) (fun _ => by kernel_rfl) (fun _ _ => by kernel_rfl)
/- chicane/wide.Mul -/
abbrev A71_0 : Type := Int × Int
abbrev R71_0 : Type := Int × Int
def v71_0 : Pk G (Int × Int) := (Pk.fst (pk (Sh.cons (Sh.int .i64) (Sh.fst (Sh.cons (Sh.int .i64) Sh.nil))) Sh.hnil))
def w71_0 : Wk G (Int × Int) := (Wk.one [(.agg [.keep, .keep])] (Pk.fst (pk (Sh.fst (Sh.cons (Sh.agg (Sh.cons (Sh.int .i64) (Sh.fst (Sh.cons (Sh.int .u64) Sh.nil)))) Sh.nil)) Sh.hnil)))
def F71_0 (v : Int × Int) : Option (Int × Int) :=
  let x492 : Int := (IntKind.wrap .u64 v.1)
  let x493 : Int := (IntKind.wrap .u64 v.2)
  (F98_0 (x492, x493)).bind fun r494 =>
  bif (decide (v.1 < (0 : Int))) then
    let x495 : Int := (IntKind.wrap .u64 v.2)
    let x496 : Int := (IntKind.wrap .u64 (r494.1 - x495))
    bif (decide (v.2 < (0 : Int))) then
      let x497 : Int := (IntKind.wrap .u64 v.1)
      let x498 : Int := (IntKind.wrap .u64 (x496 - x497))
      let x499 : Int := (IntKind.wrap .i64 x498)
      some (x499, r494.2)
    else
      let x500 : Int := (IntKind.wrap .i64 x496)
      some (x500, r494.2)
  else
    bif (decide (v.2 < (0 : Int))) then
      let x501 : Int := (IntKind.wrap .u64 v.1)
      let x502 : Int := (IntKind.wrap .u64 (r494.1 - x501))
      let x503 : Int := (IntKind.wrap .i64 x502)
      some (x503, r494.2)
    else
      let x504 : Int := (IntKind.wrap .i64 r494.1)
      some (x504, r494.2)

noncomputable def k71_0 : List (Known Try.prog E) := [Known.of envOk [1, 1] [.keep, .keep] v98_0 F98_0 w98_0 ok98_0]
noncomputable def L71_0 (n id : Nat) (st : St G) : Option (Int × Int) := none
set_option maxRecDepth 100000 in
theorem e71_0 (n : Nat) (v : Int × Int) : ev Try.prog E (oracle k71_0) Try.f71.ntmps (fun x => mem x []) (L71_0 n) (finA Try.prog E Try.f71.results.toList [] w71_0.alts) 4000 [.code (Try.f71.body.getD .skip)] (argSt (v71_0.enc v)) = F71_0 v := by kernel_rfl
theorem ok71_0 : FnOk Try.prog E 71 v71_0.enc F71_0 w71_0.enc :=
  fn_known (fn := Try.f71) (c := (Try.f71.body.getD .skip)) Try.func71 (by kernel_rfl) rfl envOk (oracle_ok k71_0) mixed v71_0 F71_0 w71_0 [] [] 4000 L71_0 (by kernel_rfl)
    (fun _ h => nomatch h) (fun v _ h => ⟨0, (e71_0 _ v).trans h⟩) (fun _ => by kernel_rfl) (fun _ => by kernel_rfl) (fun _ _ => by kernel_rfl)
/- chicane/spline.Nearest -/
abbrev A44_0 : Type := (List (Int × Int)) × Int × Int
abbrev R44_0 : Type := Int
def v44_0 : Pk G ((List (Int × Int)) × Int × Int) := (Pk.fst (pk (Sh.cons (Sh.ros 69) (Sh.fst (Sh.cons (Sh.agg (Sh.cons (Sh.int .i64) (Sh.fst (Sh.cons (Sh.int .i64) Sh.nil)))) Sh.nil))) Sh.hnil))
def w44_0 : Wk G Int := (Wk.one [.keep] (Pk.fst (pk (Sh.fst (Sh.cons (Sh.int .i64) Sh.nil)) Sh.hnil)))
def c44_0_5 : Pk G ((Int × (List (Int × Int)) × Int × Int) × (Int × Int) × Int × Int) := (pk (Sh.snd (Sh.cons (Sh.ptr 0 0) (Sh.cons (Sh.int .i64) (Sh.snd (Sh.cons (Sh.ptr 1 0) (Sh.cons (Sh.ros 69) (Sh.cons (Sh.int .i64) (Sh.fst (Sh.cons (Sh.int .i64) Sh.nil))))))))) (Sh.hfix 1 88 (Sh.cons (Sh.int .i64) (Sh.fst (Sh.cons (Sh.int .u64) Sh.nil))) (Sh.fst (Sh.hfix 0 69 (Sh.cons (Sh.int .i64) (Sh.fst (Sh.cons (Sh.int .i64) Sh.nil))) Sh.hnil))))
def B44_0_5 (K : (((Int × (List (Int × Int)) × Int × Int) × (Int × Int) × Int × Int) → Option Int)) (v : (Int × (List (Int × Int)) × Int × Int) × (Int × Int) × Int × Int) : Option Int :=
  bif (decide (v.1.2.2.2 < v.1.2.2.1)) then
    (rdx v.1.2.1 v.1.2.2.2).bind fun (x527 : Int × Int) =>
    let x528 : Int := (IntKind.wrap .i64 (x527.1 - v.2.2.1))
    let x529 : Int := (IntKind.wrap .i64 (x527.2 - v.2.2.2))
    (F71_0 (x528, x528)).bind fun r530 =>
    (F71_0 (x529, x529)).bind fun r531 =>
    (F68_0 (r530, r531)).bind fun r532 =>
    bif (decide (v.1.1 < (0 : Int))) then
      let x533 : Int := (IntKind.wrap .i64 (v.1.2.2.2 + (1 : Int)))
      K ((v.1.2.2.2, (v.1.2.1, (v.1.2.2.1, x533))), (r532.1, v.2.2))
    else
      (F63_0 (r532.1, v.2.1)).bind fun r534 =>
      bif (decide (r534 < (0 : Int))) then
        let x535 : Int := (IntKind.wrap .i64 (v.1.2.2.2 + (1 : Int)))
        K ((v.1.2.2.2, (v.1.2.1, (v.1.2.2.1, x535))), (r532.1, v.2.2))
      else
        let x536 : Int := (IntKind.wrap .i64 (v.1.2.2.2 + (1 : Int)))
        K ((v.1.1, (v.1.2.1, (v.1.2.2.1, x536))), v.2)
  else
    some (v.1.1)

def E44_0 (K : (((Int × (List (Int × Int)) × Int × Int) × (Int × Int) × Int × Int) → Option Int)) (v : (List (Int × Int)) × Int × Int) : Option Int :=
  (F78_0 v.2).bind fun r525 =>
  bif r525 then
    some (-1 : Int)
  else
    (F79_0 v.1).bind fun r526 =>
    bif r526 then
      some (-1 : Int)
    else
      K (((-1 : Int), (v.1, (((v.1).length : Int), (0 : Int)))), (((0 : Int), (0 : Int)), v.2))

def K44_0 : Nat → (((Int × (List (Int × Int)) × Int × Int) × (Int × Int) × Int × Int) → Option Int)
  | 0 => (fun _ => none)
  | n + 1 => (B44_0_5 (K44_0 n))
def fuel44_0 (v : (List (Int × Int)) × Int × Int) : Nat := 1000
def F44_0 (v : (List (Int × Int)) × Int × Int) : Option Int := E44_0 (K44_0 (fuel44_0 v)) v
noncomputable def k44_0 : List (Known Try.prog E) := [Known.of envOk [9] [(.agg [.keep, .keep])] v78_0 F78_0 w78_0 ok78_0, Known.of envOk [7, 178] [(.ros 69), (.fn (.func 78) [] [])] v79_0 F79_0 w79_0 ok79_0, Known.of envOk [1, 1] [.keep, .keep] v71_0 F71_0 w71_0 ok71_0, Known.of envOk [9, 9] [(.agg [.keep, .keep]), (.agg [.keep, .keep])] v68_0 F68_0 w68_0 ok68_0, Known.of envOk [9, 9] [(.agg [.keep, .keep]), (.agg [.keep, .keep])] v63_0 F63_0 w63_0 ok63_0]
def s44_0_5 : List (Nat × Pat) := [(3, (.ptr 0 0 69 [.keep, .keep])), (5, .keep), (6, (.ptr 1 0 88 [.keep, .keep])), (20, (.ros 69)), (21, .keep), (22, .keep)]
noncomputable def L44_0 (n id : Nat) (st : St G) : Option Int := match Nat.beq id 5 with | true => cutK Try.prog s44_0_5 [] c44_0_5.dec (K44_0 n) st | false => none
set_option maxRecDepth 100000 in
theorem e44_0 (n : Nat) (v : (List (Int × Int)) × Int × Int) : ev Try.prog E (oracle k44_0) Try.f44.ntmps (fun x => mem x [5]) (L44_0 n) (finA Try.prog E Try.f44.results.toList [] w44_0.alts) 4000 [.code (Try.f44.body.getD .skip)] (argSt (v44_0.enc v)) = E44_0 (K44_0 n) v := by kernel_rfl
set_option maxRecDepth 100000 in
theorem b44_0_5 (n : Nat) (v : (Int × (List (Int × Int)) × Int × Int) × (Int × Int) × Int × Int) : evCut Try.prog E (oracle k44_0) Try.f44.ntmps (fun x => mem x [5]) (L44_0 n) (finA Try.prog E Try.f44.results.toList [] w44_0.alts) 4000 (todoAt (Try.f44.body.getD .skip) 5) (cutSt s44_0_5 (c44_0_5.enc v)) = B44_0_5 (K44_0 n) v := by kernel_rfl
theorem ok44_0 : FnOk Try.prog E 44 v44_0.enc F44_0 w44_0.enc :=
  fn_known (fn := Try.f44) (c := (Try.f44.body.getD .skip)) Try.func44 (by kernel_rfl) rfl envOk (oracle_ok k44_0) mixed v44_0 F44_0 w44_0 [] [5] 4000 L44_0 (by kernel_rfl)
    (List.forall_mem_cons.2 ⟨⟨_, s44_0_5, c44_0_5.dec, c44_0_5.enc, fun n => (K44_0 n), c44_0_5.ok, fun _ _ => rfl, fun _ => rfl, fun n v _ h => (b44_0_5 n v).trans h⟩, fun _ h => (nomatch h)⟩) (fun v _ h => ⟨fuel44_0 v, (e44_0 _ v).trans h⟩) (fun _ => by kernel_rfl) (fun _ => by kernel_rfl) (fun _ _ => by kernel_rfl)
/- chicane/ghost.Along -/
abbrev A21_0 : Type := (List (Int × Int)) × List Int × Int × Int
abbrev R21_0 : Type := Int
def v21_0 : Pk G ((List (Int × Int)) × List Int × Int × Int) := (Pk.fst (pk (Sh.cons (Sh.ros 69) (Sh.cons (Sh.ros 23) (Sh.fst (Sh.cons (Sh.agg (Sh.cons (Sh.int .i64) (Sh.fst (Sh.cons (Sh.int .i64) Sh.nil)))) Sh.nil)))) Sh.hnil))
def w21_0 : Wk G Int := (Wk.one [.keep] (Pk.fst (pk (Sh.fst (Sh.cons (Sh.int .i64) Sh.nil)) Sh.hnil)))
def F21_0 (v : (List (Int × Int)) × List Int × Int × Int) : Option Int :=
  (F44_0 (v.1, v.2.2)).bind fun r541 =>
  bif (decide ((0 : Int) ≤ r541)) then
    bif (decide (r541 < ((v.2.1).length : Int))) then
      (rdx v.2.1 r541).bind fun (x542 : Int) =>
      some (x542)
    else
      some (0 : Int)
  else
    some (0 : Int)

noncomputable def k21_0 : List (Known Try.prog E) := [Known.of envOk [7, 9] [(.ros 69), (.agg [.keep, .keep])] v44_0 F44_0 w44_0 ok44_0]
noncomputable def L21_0 (n id : Nat) (st : St G) : Option Int := none
set_option maxRecDepth 100000 in
theorem e21_0 (n : Nat) (v : (List (Int × Int)) × List Int × Int × Int) : ev Try.prog E (oracle k21_0) Try.f21.ntmps (fun x => mem x []) (L21_0 n) (finA Try.prog E Try.f21.results.toList [] w21_0.alts) 4000 [.code (Try.f21.body.getD .skip)] (argSt (v21_0.enc v)) = F21_0 v := by kernel_rfl
theorem ok21_0 : FnOk Try.prog E 21 v21_0.enc F21_0 w21_0.enc :=
  fn_known (fn := Try.f21) (c := (Try.f21.body.getD .skip)) Try.func21 (by kernel_rfl) rfl envOk (oracle_ok k21_0) mixed v21_0 F21_0 w21_0 [] [] 4000 L21_0 (by kernel_rfl)
    (fun _ h => nomatch h) (fun v _ h => ⟨0, (e21_0 _ v).trans h⟩) (fun _ => by kernel_rfl) (fun _ => by kernel_rfl) (fun _ _ => by kernel_rfl)
/- chicane/chicaneref07.Near -/
abbrev A80_0 : Type := List (Int × Int)
abbrev R80_0 : Type := Bool
def v80_0 : Pk G (List (Int × Int)) := (Pk.fst (pk (Sh.fst (Sh.cons (Sh.ros 69) Sh.nil)) Sh.hnil))
def w80_0 : Wk G Bool := (Wk.one [.keep] (Pk.fst (pk (Sh.fst (Sh.cons Sh.bool Sh.nil)) Sh.hnil)))
def c80_0_2 : Pk G ((List (Int × Int)) × Int) := (Pk.fst (pk (Sh.cons (Sh.ros 69) (Sh.fst (Sh.cons (Sh.int .i64) Sh.nil))) Sh.hnil))
def B80_0_2 (K : (((List (Int × Int)) × Int) → Option Bool)) (v : (List (Int × Int)) × Int) : Option Bool :=
  bif (decide (v.2 < ((v.1).length : Int))) then
    (rdx v.1 v.2).bind fun (x556 : Int × Int) =>
    bif (decide (x556.1 > (281474976710656 : Int))) then
      some (false)
    else
      (rdx v.1 v.2).bind fun (x557 : Int × Int) =>
      bif (decide (x557.1 < (-281474976710656 : Int))) then
        some (false)
      else
        (rdx v.1 v.2).bind fun (x558 : Int × Int) =>
        bif (decide (x558.2 > (281474976710656 : Int))) then
          some (false)
        else
          (rdx v.1 v.2).bind fun (x559 : Int × Int) =>
          bif (decide (x559.2 < (-281474976710656 : Int))) then
            some (false)
          else
            let x560 : Int := (IntKind.wrap .i64 (v.2 + (1 : Int)))
            K (v.1, x560)
  else
    some (true)

def E80_0 (K : (((List (Int × Int)) × Int) → Option Bool)) (v : List (Int × Int)) : Option Bool :=
  K (v, (0 : Int))

def K80_0 : Nat → (((List (Int × Int)) × Int) → Option Bool)
  | 0 => (fun _ => none)
  | n + 1 => (B80_0_2 (K80_0 n))
def fuel80_0 (v : List (Int × Int)) : Nat := 1000
def F80_0 (v : List (Int × Int)) : Option Bool := E80_0 (K80_0 (fuel80_0 v)) v
noncomputable def k80_0 : List (Known Try.prog E) := []
def s80_0_2 : List (Nat × Pat) := [(0, (.ros 69)), (3, .keep)]
noncomputable def L80_0 (n id : Nat) (st : St G) : Option Bool := match Nat.beq id 2 with | true => cutK Try.prog s80_0_2 [] c80_0_2.dec (K80_0 n) st | false => none
set_option maxRecDepth 100000 in
theorem e80_0 (n : Nat) (v : List (Int × Int)) : ev Try.prog E (oracle k80_0) Try.f80.ntmps (fun x => mem x [2]) (L80_0 n) (finA Try.prog E Try.f80.results.toList [] w80_0.alts) 4000 [.code (Try.f80.body.getD .skip)] (argSt (v80_0.enc v)) = E80_0 (K80_0 n) v := by kernel_rfl
set_option maxRecDepth 100000 in
theorem b80_0_2 (n : Nat) (v : (List (Int × Int)) × Int) : evCut Try.prog E (oracle k80_0) Try.f80.ntmps (fun x => mem x [2]) (L80_0 n) (finA Try.prog E Try.f80.results.toList [] w80_0.alts) 4000 (todoAt (Try.f80.body.getD .skip) 2) (cutSt s80_0_2 (c80_0_2.enc v)) = B80_0_2 (K80_0 n) v := by kernel_rfl
theorem ok80_0 : FnOk Try.prog E 80 v80_0.enc F80_0 w80_0.enc :=
  fn_known (fn := Try.f80) (c := (Try.f80.body.getD .skip)) Try.func80 (by kernel_rfl) rfl envOk (oracle_ok k80_0) mixed v80_0 F80_0 w80_0 [] [2] 4000 L80_0 (by kernel_rfl)
    (List.forall_mem_cons.2 ⟨⟨_, s80_0_2, c80_0_2.dec, c80_0_2.enc, fun n => (K80_0 n), c80_0_2.ok, fun _ _ => rfl, fun _ => rfl, fun n v _ h => (b80_0_2 n v).trans h⟩, fun _ h => (nomatch h)⟩) (fun v _ h => ⟨fuel80_0 v, (e80_0 _ v).trans h⟩) (fun _ => by kernel_rfl) (fun _ => by kernel_rfl) (fun _ _ => by kernel_rfl)
/- chicane/chicaneref01.Size -/
abbrev A90_0 : Type := Int
abbrev R90_0 : Type := Int
def v90_0 : Pk G Int := (Pk.fst (pk (Sh.fst (Sh.cons (Sh.int .i64) Sh.nil)) Sh.hnil))
def w90_0 : Wk G Int := (Wk.one [.keep] (Pk.fst (pk (Sh.fst (Sh.cons (Sh.int .u64) Sh.nil)) Sh.hnil)))
def F90_0 (v : Int) : Option Int :=
  bif (decide (v < (0 : Int))) then
    let x578 : Int := (IntKind.wrap .i64 (v + (1 : Int)))
    let x579 : Int := (IntKind.wrap .i64 (0 - x578))
    let x580 : Int := (IntKind.wrap .u64 x579)
    let x581 : Int := (IntKind.wrap .u64 (x580 + (1 : Int)))
    some (x581)
  else
    let x582 : Int := (IntKind.wrap .u64 v)
    some (x582)

noncomputable def k90_0 : List (Known Try.prog E) := []
noncomputable def L90_0 (n id : Nat) (st : St G) : Option Int := none
set_option maxRecDepth 100000 in
theorem e90_0 (n : Nat) (v : Int) : ev Try.prog E (oracle k90_0) Try.f90.ntmps (fun x => mem x []) (L90_0 n) (finA Try.prog E Try.f90.results.toList [] w90_0.alts) 4000 [.code (Try.f90.body.getD .skip)] (argSt (v90_0.enc v)) = F90_0 v := by kernel_rfl
theorem ok90_0 : FnOk Try.prog E 90 v90_0.enc F90_0 w90_0.enc :=
  fn_known (fn := Try.f90) (c := (Try.f90.body.getD .skip)) Try.func90 (by kernel_rfl) rfl envOk (oracle_ok k90_0) mixed v90_0 F90_0 w90_0 [] [] 4000 L90_0 (by kernel_rfl)
    (fun _ h => nomatch h) (fun v _ h => ⟨0, (e90_0 _ v).trans h⟩) (fun _ => by kernel_rfl) (fun _ => by kernel_rfl) (fun _ _ => by kernel_rfl)
/- chicane/chicaneref01.low -/
abbrev A106_0 : Type := Int
abbrev R106_0 : Type := Int
def v106_0 : Pk G Int := (Pk.fst (pk (Sh.fst (Sh.cons (Sh.int .u64) Sh.nil)) Sh.hnil))
def w106_0 : Wk G Int := (Wk.one [.keep] (Pk.fst (pk (Sh.fst (Sh.cons (Sh.int .u64) Sh.nil)) Sh.hnil)))
def F106_0 (v : Int) : Option Int :=
  let x587 : Int := (Int.tmod v (4294967296 : Int))
  some (x587)

noncomputable def k106_0 : List (Known Try.prog E) := []
noncomputable def L106_0 (n id : Nat) (st : St G) : Option Int := none
set_option maxRecDepth 100000 in
theorem e106_0 (n : Nat) (v : Int) : ev Try.prog E (oracle k106_0) Try.f106.ntmps (fun x => mem x []) (L106_0 n) (finA Try.prog E Try.f106.results.toList [] w106_0.alts) 4000 [.code (Try.f106.body.getD .skip)] (argSt (v106_0.enc v)) = F106_0 v := by kernel_rfl
theorem ok106_0 : FnOk Try.prog E 106 v106_0.enc F106_0 w106_0.enc :=
  fn_known (fn := Try.f106) (c := (Try.f106.body.getD .skip)) Try.func106 (by kernel_rfl) rfl envOk (oracle_ok k106_0) mixed v106_0 F106_0 w106_0 [] [] 4000 L106_0 (by kernel_rfl)
    (fun _ h => nomatch h) (fun v _ h => ⟨0, (e106_0 _ v).trans h⟩) (fun _ => by kernel_rfl) (fun _ => by kernel_rfl) (fun _ _ => by kernel_rfl)
/- chicane/chicaneref01.Zero -/
abbrev A104_0 : Type := Bool × Int × Int × Int × Int
abbrev R104_0 : Type := Bool
def v104_0 : Pk G (Bool × Int × Int × Int × Int) := (Pk.fst (pk (Sh.fst (Sh.cons (Sh.agg (Sh.cons Sh.bool (Sh.cons (Sh.int .u64) (Sh.cons (Sh.int .u64) (Sh.cons (Sh.int .u64) (Sh.fst (Sh.cons (Sh.int .u64) Sh.nil))))))) Sh.nil)) Sh.hnil))
def w104_0 : Wk G Bool := (Wk.one [.keep] (Pk.fst (pk (Sh.fst (Sh.cons Sh.bool Sh.nil)) Sh.hnil)))
def F104_0 (v : Bool × Int × Int × Int × Int) : Option Bool :=
  bif (v.2.1 == (0 : Int)) then
    bif (v.2.2.1 == (0 : Int)) then
      bif (v.2.2.2.1 == (0 : Int)) then
        some (v.2.2.2.2 == (0 : Int))
      else
        some (false)
    else
      some (false)
  else
    some (false)

noncomputable def k104_0 : List (Known Try.prog E) := []
noncomputable def L104_0 (n id : Nat) (st : St G) : Option Bool := none
set_option maxRecDepth 100000 in
theorem e104_0 (n : Nat) (v : Bool × Int × Int × Int × Int) : ev Try.prog E (oracle k104_0) Try.f104.ntmps (fun x => mem x []) (L104_0 n) (finA Try.prog E Try.f104.results.toList [] w104_0.alts) 4000 [.code (Try.f104.body.getD .skip)] (argSt (v104_0.enc v)) = F104_0 v := by kernel_rfl
theorem ok104_0 : FnOk Try.prog E 104 v104_0.enc F104_0 w104_0.enc :=
  fn_known (fn := Try.f104) (c := (Try.f104.body.getD .skip)) Try.func104 (by kernel_rfl) rfl envOk (oracle_ok k104_0) mixed v104_0 F104_0 w104_0 [] [] 4000 L104_0 (by kernel_rfl)
    (fun _ h => nomatch h) (fun v _ h => ⟨0, (e104_0 _ v).trans h⟩) (fun _ => by kernel_rfl) (fun _ => by kernel_rfl) (fun _ _ => by kernel_rfl)
/- chicane/chicaneref01.Mul -/
abbrev A82_0 : Type := Int × Int
abbrev R82_0 : Type := Bool × Int × Int × Int × Int
def v82_0 : Pk G (Int × Int) := (Pk.fst (pk (Sh.cons (Sh.int .i64) (Sh.fst (Sh.cons (Sh.int .i64) Sh.nil))) Sh.hnil))
def w82_0 : Wk G (Bool × Int × Int × Int × Int) := (Wk.one [(.agg [.keep, .keep, .keep, .keep, .keep])] (Pk.fst (pk (Sh.fst (Sh.cons (Sh.agg (Sh.cons Sh.bool (Sh.cons (Sh.int .u64) (Sh.cons (Sh.int .u64) (Sh.cons (Sh.int .u64) (Sh.fst (Sh.cons (Sh.int .u64) Sh.nil))))))) Sh.nil)) Sh.hnil)))
def c82_0_7 : Pk G (Int × (Bool × Int × Int × Int × Int) × (Int × Int) × (Int × Int) × Bool × Int × Int × Int × Int) := (pk (Sh.snd (Sh.cons (Sh.ptr 0 0) (Sh.snd (Sh.cons (Sh.ptr 1 0) (Sh.snd (Sh.cons (Sh.ptr 2 0) (Sh.snd (Sh.cons (Sh.ptr 3 0) (Sh.fst (Sh.cons (Sh.int .i64) Sh.nil)))))))))) (Sh.hfix 3 146 (Sh.cons Sh.bool (Sh.cons (Sh.int .u64) (Sh.cons (Sh.int .u64) (Sh.cons (Sh.int .u64) (Sh.fst (Sh.cons (Sh.int .u64) Sh.nil)))))) (Sh.hfix 2 178 (Sh.cons (Sh.int .u64) (Sh.fst (Sh.cons (Sh.int .u64) Sh.nil))) (Sh.hfix 1 178 (Sh.cons (Sh.int .u64) (Sh.fst (Sh.cons (Sh.int .u64) Sh.nil))) (Sh.fst (Sh.hfix 0 146 (Sh.cons Sh.bool (Sh.cons (Sh.int .u64) (Sh.cons (Sh.int .u64) (Sh.cons (Sh.int .u64) (Sh.fst (Sh.cons (Sh.int .u64) Sh.nil)))))) Sh.hnil))))))
def c82_0_10 : Pk G ((Int × Int) × (Bool × Int × Int × Int × Int) × (Int × Int) × (Int × Int) × Bool × Int × Int × Int × Int) := (pk (Sh.snd (Sh.cons (Sh.ptr 0 0) (Sh.snd (Sh.cons (Sh.ptr 1 0) (Sh.snd (Sh.cons (Sh.ptr 2 0) (Sh.snd (Sh.cons (Sh.ptr 3 0) (Sh.cons (Sh.int .i64) (Sh.fst (Sh.cons (Sh.int .i64) Sh.nil))))))))))) (Sh.hfix 3 146 (Sh.cons Sh.bool (Sh.cons (Sh.int .u64) (Sh.cons (Sh.int .u64) (Sh.cons (Sh.int .u64) (Sh.fst (Sh.cons (Sh.int .u64) Sh.nil)))))) (Sh.hfix 2 178 (Sh.cons (Sh.int .u64) (Sh.fst (Sh.cons (Sh.int .u64) Sh.nil))) (Sh.hfix 1 178 (Sh.cons (Sh.int .u64) (Sh.fst (Sh.cons (Sh.int .u64) Sh.nil))) (Sh.fst (Sh.hfix 0 146 (Sh.cons Sh.bool (Sh.cons (Sh.int .u64) (Sh.cons (Sh.int .u64) (Sh.cons (Sh.int .u64) (Sh.fst (Sh.cons (Sh.int .u64) Sh.nil)))))) Sh.hnil))))))
def c82_0_15 : Pk G ((Int × Int × Int × Int) × (Bool × Int × Int × Int × Int) × (Int × Int) × (Int × Int) × Bool × Int × Int × Int × Int) := (pk (Sh.snd (Sh.cons (Sh.ptr 0 0) (Sh.snd (Sh.cons (Sh.ptr 1 0) (Sh.snd (Sh.cons (Sh.ptr 2 0) (Sh.snd (Sh.cons (Sh.ptr 3 0) (Sh.cons (Sh.int .i64) (Sh.cons (Sh.int .i64) (Sh.cons (Sh.int .u64) (Sh.fst (Sh.cons (Sh.int .i64) Sh.nil))))))))))))) (Sh.hfix 3 146 (Sh.cons Sh.bool (Sh.cons (Sh.int .u64) (Sh.cons (Sh.int .u64) (Sh.cons (Sh.int .u64) (Sh.fst (Sh.cons (Sh.int .u64) Sh.nil)))))) (Sh.hfix 2 178 (Sh.cons (Sh.int .u64) (Sh.fst (Sh.cons (Sh.int .u64) Sh.nil))) (Sh.hfix 1 178 (Sh.cons (Sh.int .u64) (Sh.fst (Sh.cons (Sh.int .u64) Sh.nil))) (Sh.fst (Sh.hfix 0 146 (Sh.cons Sh.bool (Sh.cons (Sh.int .u64) (Sh.cons (Sh.int .u64) (Sh.cons (Sh.int .u64) (Sh.fst (Sh.cons (Sh.int .u64) Sh.nil)))))) Sh.hnil))))))
def B82_0_7 (K : ((Int × (Bool × Int × Int × Int × Int) × (Int × Int) × (Int × Int) × Bool × Int × Int × Int × Int) → Option (Bool × Int × Int × Int × Int)) × (((Int × Int) × (Bool × Int × Int × Int × Int) × (Int × Int) × (Int × Int) × Bool × Int × Int × Int × Int) → Option (Bool × Int × Int × Int × Int)) × (((Int × Int × Int × Int) × (Bool × Int × Int × Int × Int) × (Int × Int) × (Int × Int) × Bool × Int × Int × Int × Int) → Option (Bool × Int × Int × Int × Int))) (v : Int × (Bool × Int × Int × Int × Int) × (Int × Int) × (Int × Int) × Bool × Int × Int × Int × Int) : Option (Bool × Int × Int × Int × Int) :=
  bif (decide (v.1 < (2 : Int))) then
    K.2.1 ((v.1, (0 : Int)), v.2)
  else
    (F104_0 v.2.1).bind fun r680 =>
    bif r680 then
      some (false, v.2.1.2)
    else
      some (v.2.1)

def B82_0_10 (K : ((Int × (Bool × Int × Int × Int × Int) × (Int × Int) × (Int × Int) × Bool × Int × Int × Int × Int) → Option (Bool × Int × Int × Int × Int)) × (((Int × Int) × (Bool × Int × Int × Int × Int) × (Int × Int) × (Int × Int) × Bool × Int × Int × Int × Int) → Option (Bool × Int × Int × Int × Int)) × (((Int × Int × Int × Int) × (Bool × Int × Int × Int × Int) × (Int × Int) × (Int × Int) × Bool × Int × Int × Int × Int) → Option (Bool × Int × Int × Int × Int))) (v : (Int × Int) × (Bool × Int × Int × Int × Int) × (Int × Int) × (Int × Int) × Bool × Int × Int × Int × Int) : Option (Bool × Int × Int × Int × Int) :=
  bif (decide (v.1.2 < (2 : Int))) then
    (idx v.1.1 2).bind fun (x681 : Nat) =>
    (idx v.1.2 2).bind fun (x682 : Nat) =>
    let x683 : Int := (IntKind.wrap .u64 ((List.getD [v.2.2.2.1.1, v.2.2.2.1.2] x681 0) * (List.getD [v.2.2.1.1, v.2.2.1.2] x682 0)))
    let x684 : Int := (IntKind.wrap .i64 (v.1.1 + v.1.2))
    K.2.2 ((v.1.1, (v.1.2, (x683, x684))), v.2)
  else
    let x685 : Int := (IntKind.wrap .i64 (v.1.1 + (1 : Int)))
    K.1 (x685, v.2)

def B82_0_15 (K : ((Int × (Bool × Int × Int × Int × Int) × (Int × Int) × (Int × Int) × Bool × Int × Int × Int × Int) → Option (Bool × Int × Int × Int × Int)) × (((Int × Int) × (Bool × Int × Int × Int × Int) × (Int × Int) × (Int × Int) × Bool × Int × Int × Int × Int) → Option (Bool × Int × Int × Int × Int)) × (((Int × Int × Int × Int) × (Bool × Int × Int × Int × Int) × (Int × Int) × (Int × Int) × Bool × Int × Int × Int × Int) → Option (Bool × Int × Int × Int × Int))) (v : (Int × Int × Int × Int) × (Bool × Int × Int × Int × Int) × (Int × Int) × (Int × Int) × Bool × Int × Int × Int × Int) : Option (Bool × Int × Int × Int × Int) :=
  bif (decide (v.1.2.2.2 < (4 : Int))) then
    bif (decide (v.1.2.2.1 > (0 : Int))) then
      (idx v.1.2.2.2 4).bind fun (x686 : Nat) =>
      (F106_0 v.1.2.2.1).bind fun r687 =>
      let x688 : Int := (IntKind.wrap .u64 ((List.getD [v.2.1.2.1, v.2.1.2.2.1, v.2.1.2.2.2.1, v.2.1.2.2.2.2] x686 0) + r687))
      (F106_0 x688).bind fun r689 =>
      (idx v.1.2.2.2 4).bind fun (x690 : Nat) =>
      let x691 : Int := (IntKind.wrap .u64 (Int.tdiv v.1.2.2.1 (4294967296 : Int)))
      let x692 : Int := (IntKind.wrap .u64 (Int.tdiv x688 (4294967296 : Int)))
      let x693 : Int := (IntKind.wrap .u64 (x691 + x692))
      let x694 : Int := (IntKind.wrap .i64 (v.1.2.2.2 + (1 : Int)))
      K.2.2 ((v.1.1, (v.1.2.1, (x693, x694))), ((v.2.1.1, ((if x690 = 0 then r689 else v.2.1.2.1), ((if x690 = 1 then r689 else v.2.1.2.2.1), ((if x690 = 2 then r689 else v.2.1.2.2.2.1), (if x690 = 3 then r689 else v.2.1.2.2.2.2))))), v.2.2))
    else
      let x695 : Int := (IntKind.wrap .i64 (v.1.2.1 + (1 : Int)))
      K.2.1 ((v.1.1, x695), v.2)
  else
    let x696 : Int := (IntKind.wrap .i64 (v.1.2.1 + (1 : Int)))
    K.2.1 ((v.1.1, x696), v.2)

def E82_0 (K : ((Int × (Bool × Int × Int × Int × Int) × (Int × Int) × (Int × Int) × Bool × Int × Int × Int × Int) → Option (Bool × Int × Int × Int × Int)) × (((Int × Int) × (Bool × Int × Int × Int × Int) × (Int × Int) × (Int × Int) × Bool × Int × Int × Int × Int) → Option (Bool × Int × Int × Int × Int)) × (((Int × Int × Int × Int) × (Bool × Int × Int × Int × Int) × (Int × Int) × (Int × Int) × Bool × Int × Int × Int × Int) → Option (Bool × Int × Int × Int × Int))) (v : Int × Int) : Option (Bool × Int × Int × Int × Int) :=
  (F90_0 v.1).bind fun r674 =>
  (F90_0 v.2).bind fun r675 =>
  (F106_0 r674).bind fun r676 =>
  let x677 : Int := (IntKind.wrap .u64 (Int.tdiv r674 (4294967296 : Int)))
  (F106_0 r675).bind fun r678 =>
  let x679 : Int := (IntKind.wrap .u64 (Int.tdiv r675 (4294967296 : Int)))
  K.1 ((0 : Int), (((!((decide (v.1 < (0 : Int))) == (decide (v.2 < (0 : Int))))), ((0 : Int), ((0 : Int), ((0 : Int), (0 : Int))))), ((r678, x679), ((r676, x677), (false, ((0 : Int), ((0 : Int), ((0 : Int), (0 : Int)))))))))

def K82_0 : Nat → ((Int × (Bool × Int × Int × Int × Int) × (Int × Int) × (Int × Int) × Bool × Int × Int × Int × Int) → Option (Bool × Int × Int × Int × Int)) × (((Int × Int) × (Bool × Int × Int × Int × Int) × (Int × Int) × (Int × Int) × Bool × Int × Int × Int × Int) → Option (Bool × Int × Int × Int × Int)) × (((Int × Int × Int × Int) × (Bool × Int × Int × Int × Int) × (Int × Int) × (Int × Int) × Bool × Int × Int × Int × Int) → Option (Bool × Int × Int × Int × Int))
  | 0 => (fun _ => none, fun _ => none, fun _ => none)
  | n + 1 => (B82_0_7 (K82_0 n), B82_0_10 (K82_0 n), B82_0_15 (K82_0 n))
def fuel82_0 (v : Int × Int) : Nat := 1000
def F82_0 (v : Int × Int) : Option (Bool × Int × Int × Int × Int) := E82_0 (K82_0 (fuel82_0 v)) v
noncomputable def k82_0 : List (Known Try.prog E) := [Known.of envOk [1] [.keep] v90_0 F90_0 w90_0 ok90_0, Known.of envOk [1] [.keep] v106_0 F106_0 w106_0 ok106_0, Known.of envOk [9] [(.agg [.keep, .keep, .keep, .keep, .keep])] v104_0 F104_0 w104_0 ok104_0]
def s82_0_15 : List (Nat × Pat) := [(4, (.ptr 0 0 146 [.keep, .keep, .keep, .keep, .keep])), (7, (.ptr 1 0 178 [.keep, .keep])), (8, (.ptr 2 0 178 [.keep, .keep])), (9, (.ptr 3 0 146 [.keep, .keep, .keep, .keep, .keep])), (10, .keep), (11, .keep), (13, .keep), (14, .keep)]
def s82_0_10 : List (Nat × Pat) := [(4, (.ptr 0 0 146 [.keep, .keep, .keep, .keep, .keep])), (7, (.ptr 1 0 178 [.keep, .keep])), (8, (.ptr 2 0 178 [.keep, .keep])), (9, (.ptr 3 0 146 [.keep, .keep, .keep, .keep, .keep])), (10, .keep), (11, .keep)]
def s82_0_7 : List (Nat × Pat) := [(4, (.ptr 0 0 146 [.keep, .keep, .keep, .keep, .keep])), (7, (.ptr 1 0 178 [.keep, .keep])), (8, (.ptr 2 0 178 [.keep, .keep])), (9, (.ptr 3 0 146 [.keep, .keep, .keep, .keep, .keep])), (10, .keep)]
noncomputable def L82_0 (n id : Nat) (st : St G) : Option (Bool × Int × Int × Int × Int) := match Nat.beq id 7 with | true => cutK Try.prog s82_0_7 [] c82_0_7.dec (K82_0 n).1 st | false => match Nat.beq id 10 with | true => cutK Try.prog s82_0_10 [] c82_0_10.dec (K82_0 n).2.1 st | false => match Nat.beq id 15 with | true => cutK Try.prog s82_0_15 [] c82_0_15.dec (K82_0 n).2.2 st | false => none
set_option maxRecDepth 100000 in
theorem e82_0 (n : Nat) (v : Int × Int) : ev Try.prog E (oracle k82_0) Try.f82.ntmps (fun x => mem x [7, 10, 15]) (L82_0 n) (finA Try.prog E Try.f82.results.toList [] w82_0.alts) 4000 [.code (Try.f82.body.getD .skip)] (argSt (v82_0.enc v)) = E82_0 (K82_0 n) v := by kernel_rfl
set_option maxRecDepth 100000 in
theorem b82_0_7 (n : Nat) (v : Int × (Bool × Int × Int × Int × Int) × (Int × Int) × (Int × Int) × Bool × Int × Int × Int × Int) : evCut Try.prog E (oracle k82_0) Try.f82.ntmps (fun x => mem x [7, 10, 15]) (L82_0 n) (finA Try.prog E Try.f82.results.toList [] w82_0.alts) 4000 (todoAt (Try.f82.body.getD .skip) 7) (cutSt s82_0_7 (c82_0_7.enc v)) = B82_0_7 (K82_0 n) v := by kernel_rfl
set_option maxRecDepth 100000 in
theorem b82_0_10 (n : Nat) (v : (Int × Int) × (Bool × Int × Int × Int × Int) × (Int × Int) × (Int × Int) × Bool × Int × Int × Int × Int) : evCut Try.prog E (oracle k82_0) Try.f82.ntmps (fun x => mem x [7, 10, 15]) (L82_0 n) (finA Try.prog E Try.f82.results.toList [] w82_0.alts) 4000 (todoAt (Try.f82.body.getD .skip) 10) (cutSt s82_0_10 (c82_0_10.enc v)) = B82_0_10 (K82_0 n) v := by kernel_rfl
set_option maxRecDepth 100000 in
theorem b82_0_15 (n : Nat) (v : (Int × Int × Int × Int) × (Bool × Int × Int × Int × Int) × (Int × Int) × (Int × Int) × Bool × Int × Int × Int × Int) : evCut Try.prog E (oracle k82_0) Try.f82.ntmps (fun x => mem x [7, 10, 15]) (L82_0 n) (finA Try.prog E Try.f82.results.toList [] w82_0.alts) 4000 (todoAt (Try.f82.body.getD .skip) 15) (cutSt s82_0_15 (c82_0_15.enc v)) = B82_0_15 (K82_0 n) v := by kernel_rfl
theorem ok82_0 : FnOk Try.prog E 82 v82_0.enc F82_0 w82_0.enc :=
  fn_known (fn := Try.f82) (c := (Try.f82.body.getD .skip)) Try.func82 (by kernel_rfl) rfl envOk (oracle_ok k82_0) mixed v82_0 F82_0 w82_0 [] [7, 10, 15] 4000 L82_0 (by kernel_rfl)
    (List.forall_mem_cons.2 ⟨⟨_, s82_0_7, c82_0_7.dec, c82_0_7.enc, fun n => (K82_0 n).1, c82_0_7.ok, fun _ _ => rfl, fun _ => rfl, fun n v _ h => (b82_0_7 n v).trans h⟩, List.forall_mem_cons.2 ⟨⟨_, s82_0_10, c82_0_10.dec, c82_0_10.enc, fun n => (K82_0 n).2.1, c82_0_10.ok, fun _ _ => rfl, fun _ => rfl, fun n v _ h => (b82_0_10 n v).trans h⟩, List.forall_mem_cons.2 ⟨⟨_, s82_0_15, c82_0_15.dec, c82_0_15.enc, fun n => (K82_0 n).2.2, c82_0_15.ok, fun _ _ => rfl, fun _ => rfl, fun n v _ h => (b82_0_15 n v).trans h⟩, fun _ h => (nomatch h)⟩⟩⟩) (fun v _ h => ⟨fuel82_0 v, (e82_0 _ v).trans h⟩) (fun _ => by kernel_rfl) (fun _ => by kernel_rfl) (fun _ _ => by kernel_rfl)
/- chicane/chicaneref01.plus -/
abbrev A101_0 : Type := (Int × Int × Int × Int) × Int × Int × Int × Int
abbrev R101_0 : Type := (Int × Int × Int × Int) × Int
def v101_0 : Pk G ((Int × Int × Int × Int) × Int × Int × Int × Int) := (Pk.fst (pk (Sh.cons (Sh.agg (Sh.cons (Sh.int .u64) (Sh.cons (Sh.int .u64) (Sh.cons (Sh.int .u64) (Sh.fst (Sh.cons (Sh.int .u64) Sh.nil)))))) (Sh.fst (Sh.cons (Sh.agg (Sh.cons (Sh.int .u64) (Sh.cons (Sh.int .u64) (Sh.cons (Sh.int .u64) (Sh.fst (Sh.cons (Sh.int .u64) Sh.nil)))))) Sh.nil))) Sh.hnil))
def w101_0 : Wk G ((Int × Int × Int × Int) × Int) := (Wk.one [(.agg [.keep, .keep, .keep, .keep]), .keep] (Pk.fst (pk (Sh.cons (Sh.agg (Sh.cons (Sh.int .u64) (Sh.cons (Sh.int .u64) (Sh.cons (Sh.int .u64) (Sh.fst (Sh.cons (Sh.int .u64) Sh.nil)))))) (Sh.fst (Sh.cons (Sh.int .u64) Sh.nil))) Sh.hnil)))
def F101_0 (v : (Int × Int × Int × Int) × Int × Int × Int × Int) : Option ((Int × Int × Int × Int) × Int) :=
  let x731 : Int := (IntKind.wrap .u64 (v.1.1 + v.2.1))
  let x732 : Int := (IntKind.wrap .u64 (x731 + (0 : Int)))
  (F106_0 x732).bind fun r733 =>
  let x734 : Int := (IntKind.wrap .u64 (Int.tdiv x732 (4294967296 : Int)))
  let x735 : Int := (IntKind.wrap .u64 (v.1.2.1 + v.2.2.1))
  let x736 : Int := (IntKind.wrap .u64 (x735 + x734))
  (F106_0 x736).bind fun r737 =>
  let x738 : Int := (IntKind.wrap .u64 (Int.tdiv x736 (4294967296 : Int)))
  let x739 : Int := (IntKind.wrap .u64 (v.1.2.2.1 + v.2.2.2.1))
  let x740 : Int := (IntKind.wrap .u64 (x739 + x738))
  (F106_0 x740).bind fun r741 =>
  let x742 : Int := (IntKind.wrap .u64 (Int.tdiv x740 (4294967296 : Int)))
  let x743 : Int := (IntKind.wrap .u64 (v.1.2.2.2 + v.2.2.2.2))
  let x744 : Int := (IntKind.wrap .u64 (x743 + x742))
  (F106_0 x744).bind fun r745 =>
  let x746 : Int := (IntKind.wrap .u64 (Int.tdiv x744 (4294967296 : Int)))
  some ((r733, (r737, (r741, r745))), x746)

noncomputable def k101_0 : List (Known Try.prog E) := [Known.of envOk [1] [.keep] v106_0 F106_0 w106_0 ok106_0]
noncomputable def L101_0 (n id : Nat) (st : St G) : Option ((Int × Int × Int × Int) × Int) := none
set_option maxRecDepth 100000 in
theorem e101_0 (n : Nat) (v : (Int × Int × Int × Int) × Int × Int × Int × Int) : ev Try.prog E (oracle k101_0) Try.f101.ntmps (fun x => mem x []) (L101_0 n) (finA Try.prog E Try.f101.results.toList [] w101_0.alts) 4000 [.code (Try.f101.body.getD .skip)] (argSt (v101_0.enc v)) = F101_0 v := by kernel_rfl
theorem ok101_0 : FnOk Try.prog E 101 v101_0.enc F101_0 w101_0.enc :=
  fn_known (fn := Try.f101) (c := (Try.f101.body.getD .skip)) Try.func101 (by kernel_rfl) rfl envOk (oracle_ok k101_0) mixed v101_0 F101_0 w101_0 [] [] 4000 L101_0 (by kernel_rfl)
    (fun _ h => nomatch h) (fun v _ h => ⟨0, (e101_0 _ v).trans h⟩) (fun _ => by kernel_rfl) (fun _ => by kernel_rfl) (fun _ _ => by kernel_rfl)
/- chicane/chicaneref01.Words -/
abbrev A105_0 : Type := Bool × Int × Int × Int × Int
abbrev R105_0 : Type := Int × Int × Bool
def v105_0 : Pk G (Bool × Int × Int × Int × Int) := (Pk.fst (pk (Sh.fst (Sh.cons (Sh.agg (Sh.cons Sh.bool (Sh.cons (Sh.int .u64) (Sh.cons (Sh.int .u64) (Sh.cons (Sh.int .u64) (Sh.fst (Sh.cons (Sh.int .u64) Sh.nil))))))) Sh.nil)) Sh.hnil))
def w105_0 : Wk G (Int × Int × Bool) := (Wk.one [.keep, .keep, .keep] (Pk.fst (pk (Sh.cons (Sh.int .i64) (Sh.cons (Sh.int .u64) (Sh.fst (Sh.cons Sh.bool Sh.nil)))) Sh.hnil)))
def F105_0 (v : Bool × Int × Int × Int × Int) : Option (Int × Int × Bool) :=
  let x785 : Int := (IntKind.wrap .u64 (v.2.2.2.2 * (4294967296 : Int)))
  let x786 : Int := (IntKind.wrap .u64 (x785 + v.2.2.2.1))
  let x787 : Int := (IntKind.wrap .u64 (v.2.2.1 * (4294967296 : Int)))
  let x788 : Int := (IntKind.wrap .u64 (x787 + v.2.1))
  bif (decide (x786 > (9223372036854775808 : Int))) then
    some ((0 : Int), ((0 : Int), false))
  else
    bif (x786 == (9223372036854775808 : Int)) then
      bif (x788 != (0 : Int)) then
        some ((0 : Int), ((0 : Int), false))
      else
        bif (!v.1) then
          some ((0 : Int), ((0 : Int), false))
        else
          bif v.1 then
            let x789 : Int := (Go.bits .xor .u64 (18446744073709551615) x788)
            let x790 : Int := (IntKind.wrap .u64 (x789 + (1 : Int)))
            let x791 : Int := (Go.bits .xor .u64 (18446744073709551615) x786)
            bif (x790 == (0 : Int)) then
              let x792 : Int := (IntKind.wrap .u64 (x791 + (1 : Int)))
              let x793 : Int := (IntKind.wrap .i64 x792)
              some (x793, (x790, true))
            else
              let x794 : Int := (IntKind.wrap .i64 x791)
              some (x794, (x790, true))
          else
            let x795 : Int := (IntKind.wrap .i64 x786)
            some (x795, (x788, true))
    else
      bif v.1 then
        let x796 : Int := (Go.bits .xor .u64 (18446744073709551615) x788)
        let x797 : Int := (IntKind.wrap .u64 (x796 + (1 : Int)))
        let x798 : Int := (Go.bits .xor .u64 (18446744073709551615) x786)
        bif (x797 == (0 : Int)) then
          let x799 : Int := (IntKind.wrap .u64 (x798 + (1 : Int)))
          let x800 : Int := (IntKind.wrap .i64 x799)
          some (x800, (x797, true))
        else
          let x801 : Int := (IntKind.wrap .i64 x798)
          some (x801, (x797, true))
      else
        let x802 : Int := (IntKind.wrap .i64 x786)
        some (x802, (x788, true))

noncomputable def k105_0 : List (Known Try.prog E) := []
noncomputable def L105_0 (n id : Nat) (st : St G) : Option (Int × Int × Bool) := none
set_option maxRecDepth 100000 in
theorem e105_0 (n : Nat) (v : Bool × Int × Int × Int × Int) : ev Try.prog E (oracle k105_0) Try.f105.ntmps (fun x => mem x []) (L105_0 n) (finA Try.prog E Try.f105.results.toList [] w105_0.alts) 4000 [.code (Try.f105.body.getD .skip)] (argSt (v105_0.enc v)) = F105_0 v := by kernel_rfl
theorem ok105_0 : FnOk Try.prog E 105 v105_0.enc F105_0 w105_0.enc :=
  fn_known (fn := Try.f105) (c := (Try.f105.body.getD .skip)) Try.func105 (by kernel_rfl) rfl envOk (oracle_ok k105_0) mixed v105_0 F105_0 w105_0 [] [] 4000 L105_0 (by kernel_rfl)
    (fun _ h => nomatch h) (fun v _ h => ⟨0, (e105_0 _ v).trans h⟩) (fun _ => by kernel_rfl) (fun _ => by kernel_rfl) (fun _ _ => by kernel_rfl)
/- chicane/chicaneref01.less -/
abbrev A102_0 : Type := (Int × Int × Int × Int) × Int × Int × Int × Int
abbrev R102_0 : Type := Bool
def v102_0 : Pk G ((Int × Int × Int × Int) × Int × Int × Int × Int) := (Pk.fst (pk (Sh.cons (Sh.agg (Sh.cons (Sh.int .u64) (Sh.cons (Sh.int .u64) (Sh.cons (Sh.int .u64) (Sh.fst (Sh.cons (Sh.int .u64) Sh.nil)))))) (Sh.fst (Sh.cons (Sh.agg (Sh.cons (Sh.int .u64) (Sh.cons (Sh.int .u64) (Sh.cons (Sh.int .u64) (Sh.fst (Sh.cons (Sh.int .u64) Sh.nil)))))) Sh.nil))) Sh.hnil))
def w102_0 : Wk G Bool := (Wk.one [.keep] (Pk.fst (pk (Sh.fst (Sh.cons Sh.bool Sh.nil)) Sh.hnil)))
def F102_0 (v : (Int × Int × Int × Int) × Int × Int × Int × Int) : Option Bool :=
  bif (v.1.2.2.2 != v.2.2.2.2) then
    some (decide (v.1.2.2.2 < v.2.2.2.2))
  else
    bif (v.1.2.2.1 != v.2.2.2.1) then
      some (decide (v.1.2.2.1 < v.2.2.2.1))
    else
      bif (v.1.2.1 != v.2.2.1) then
        some (decide (v.1.2.1 < v.2.2.1))
      else
        bif (v.1.1 != v.2.1) then
          some (decide (v.1.1 < v.2.1))
        else
          some (false)

noncomputable def k102_0 : List (Known Try.prog E) := []
noncomputable def L102_0 (n id : Nat) (st : St G) : Option Bool := none
set_option maxRecDepth 100000 in
theorem e102_0 (n : Nat) (v : (Int × Int × Int × Int) × Int × Int × Int × Int) : ev Try.prog E (oracle k102_0) Try.f102.ntmps (fun x => mem x []) (L102_0 n) (finA Try.prog E Try.f102.results.toList [] w102_0.alts) 4000 [.code (Try.f102.body.getD .skip)] (argSt (v102_0.enc v)) = F102_0 v := by kernel_rfl
theorem ok102_0 : FnOk Try.prog E 102 v102_0.enc F102_0 w102_0.enc :=
  fn_known (fn := Try.f102) (c := (Try.f102.body.getD .skip)) Try.func102 (by kernel_rfl) rfl envOk (oracle_ok k102_0) mixed v102_0 F102_0 w102_0 [] [] 4000 L102_0 (by kernel_rfl)
    (fun _ h => nomatch h) (fun v _ h => ⟨0, (e102_0 _ v).trans h⟩) (fun _ => by kernel_rfl) (fun _ => by kernel_rfl) (fun _ _ => by kernel_rfl)
/- chicane/chicaneref01.minus -/
abbrev A103_0 : Type := (Int × Int × Int × Int) × Int × Int × Int × Int
abbrev R103_0 : Type := Int × Int × Int × Int
def v103_0 : Pk G ((Int × Int × Int × Int) × Int × Int × Int × Int) := (Pk.fst (pk (Sh.cons (Sh.agg (Sh.cons (Sh.int .u64) (Sh.cons (Sh.int .u64) (Sh.cons (Sh.int .u64) (Sh.fst (Sh.cons (Sh.int .u64) Sh.nil)))))) (Sh.fst (Sh.cons (Sh.agg (Sh.cons (Sh.int .u64) (Sh.cons (Sh.int .u64) (Sh.cons (Sh.int .u64) (Sh.fst (Sh.cons (Sh.int .u64) Sh.nil)))))) Sh.nil))) Sh.hnil))
def w103_0 : Wk G (Int × Int × Int × Int) := (Wk.one [(.agg [.keep, .keep, .keep, .keep])] (Pk.fst (pk (Sh.fst (Sh.cons (Sh.agg (Sh.cons (Sh.int .u64) (Sh.cons (Sh.int .u64) (Sh.cons (Sh.int .u64) (Sh.fst (Sh.cons (Sh.int .u64) Sh.nil)))))) Sh.nil)) Sh.hnil)))
def F103_0 (v : (Int × Int × Int × Int) × Int × Int × Int × Int) : Option (Int × Int × Int × Int) :=
  let x854 : Int := (IntKind.wrap .u64 (v.1.1 + (4294967296 : Int)))
  let x855 : Int := (IntKind.wrap .u64 (x854 - v.2.1))
  let x856 : Int := (IntKind.wrap .u64 (x855 - (0 : Int)))
  (F106_0 x856).bind fun r857 =>
  let x858 : Int := (IntKind.wrap .u64 (Int.tdiv x856 (4294967296 : Int)))
  let x859 : Int := (IntKind.wrap .u64 ((1 : Int) - x858))
  let x860 : Int := (IntKind.wrap .u64 (v.1.2.1 + (4294967296 : Int)))
  let x861 : Int := (IntKind.wrap .u64 (x860 - v.2.2.1))
  let x862 : Int := (IntKind.wrap .u64 (x861 - x859))
  (F106_0 x862).bind fun r863 =>
  let x864 : Int := (IntKind.wrap .u64 (Int.tdiv x862 (4294967296 : Int)))
  let x865 : Int := (IntKind.wrap .u64 ((1 : Int) - x864))
  let x866 : Int := (IntKind.wrap .u64 (v.1.2.2.1 + (4294967296 : Int)))
  let x867 : Int := (IntKind.wrap .u64 (x866 - v.2.2.2.1))
  let x868 : Int := (IntKind.wrap .u64 (x867 - x865))
  (F106_0 x868).bind fun r869 =>
  let x870 : Int := (IntKind.wrap .u64 (Int.tdiv x868 (4294967296 : Int)))
  let x871 : Int := (IntKind.wrap .u64 ((1 : Int) - x870))
  let x872 : Int := (IntKind.wrap .u64 (v.1.2.2.2 + (4294967296 : Int)))
  let x873 : Int := (IntKind.wrap .u64 (x872 - v.2.2.2.2))
  let x874 : Int := (IntKind.wrap .u64 (x873 - x871))
  (F106_0 x874).bind fun r875 =>
  some (r857, (r863, (r869, r875)))

noncomputable def k103_0 : List (Known Try.prog E) := [Known.of envOk [1] [.keep] v106_0 F106_0 w106_0 ok106_0]
noncomputable def L103_0 (n id : Nat) (st : St G) : Option (Int × Int × Int × Int) := none
set_option maxRecDepth 100000 in
theorem e103_0 (n : Nat) (v : (Int × Int × Int × Int) × Int × Int × Int × Int) : ev Try.prog E (oracle k103_0) Try.f103.ntmps (fun x => mem x []) (L103_0 n) (finA Try.prog E Try.f103.results.toList [] w103_0.alts) 4000 [.code (Try.f103.body.getD .skip)] (argSt (v103_0.enc v)) = F103_0 v := by kernel_rfl
theorem ok103_0 : FnOk Try.prog E 103 v103_0.enc F103_0 w103_0.enc :=
  fn_known (fn := Try.f103) (c := (Try.f103.body.getD .skip)) Try.func103 (by kernel_rfl) rfl envOk (oracle_ok k103_0) mixed v103_0 F103_0 w103_0 [] [] 4000 L103_0 (by kernel_rfl)
    (fun _ h => nomatch h) (fun v _ h => ⟨0, (e103_0 _ v).trans h⟩) (fun _ => by kernel_rfl) (fun _ => by kernel_rfl) (fun _ _ => by kernel_rfl)
/- chicane/chicaneref01.Add -/
abbrev A81_0 : Type := (Bool × Int × Int × Int × Int) × Bool × Int × Int × Int × Int
abbrev R81_0 : Type := (Bool × Int × Int × Int × Int) × Bool
def v81_0 : Pk G ((Bool × Int × Int × Int × Int) × Bool × Int × Int × Int × Int) := (Pk.fst (pk (Sh.cons (Sh.agg (Sh.cons Sh.bool (Sh.cons (Sh.int .u64) (Sh.cons (Sh.int .u64) (Sh.cons (Sh.int .u64) (Sh.fst (Sh.cons (Sh.int .u64) Sh.nil))))))) (Sh.fst (Sh.cons (Sh.agg (Sh.cons Sh.bool (Sh.cons (Sh.int .u64) (Sh.cons (Sh.int .u64) (Sh.cons (Sh.int .u64) (Sh.fst (Sh.cons (Sh.int .u64) Sh.nil))))))) Sh.nil))) Sh.hnil))
def w81_0 : Wk G ((Bool × Int × Int × Int × Int) × Bool) := (Wk.one [(.agg [.keep, .keep, .keep, .keep, .keep]), .keep] (Pk.fst (pk (Sh.cons (Sh.agg (Sh.cons Sh.bool (Sh.cons (Sh.int .u64) (Sh.cons (Sh.int .u64) (Sh.cons (Sh.int .u64) (Sh.fst (Sh.cons (Sh.int .u64) Sh.nil))))))) (Sh.fst (Sh.cons Sh.bool Sh.nil))) Sh.hnil)))
def F81_0 (v : (Bool × Int × Int × Int × Int) × Bool × Int × Int × Int × Int) : Option ((Bool × Int × Int × Int × Int) × Bool) :=
  bif (v.1.1 == v.2.1) then
    (F101_0 (v.1.2, v.2.2)).bind fun r899 =>
    (F104_0 (v.1.1, r899.1)).bind fun r900 =>
    bif r900 then
      (F105_0 (false, r899.1)).bind fun r901 =>
      bif (!(r899.2 == (0 : Int))) then
        some ((false, ((0 : Int), ((0 : Int), ((0 : Int), (0 : Int))))), false)
      else
        bif (!r901.2.2) then
          some ((false, ((0 : Int), ((0 : Int), ((0 : Int), (0 : Int))))), false)
        else
          some ((false, r899.1), true)
    else
      (F105_0 (v.1.1, r899.1)).bind fun r902 =>
      bif (!(r899.2 == (0 : Int))) then
        some ((false, ((0 : Int), ((0 : Int), ((0 : Int), (0 : Int))))), false)
      else
        bif (!r902.2.2) then
          some ((false, ((0 : Int), ((0 : Int), ((0 : Int), (0 : Int))))), false)
        else
          some ((v.1.1, r899.1), true)
  else
    (F102_0 (v.1.2, v.2.2)).bind fun r903 =>
    bif r903 then
      (F103_0 (v.2.2, v.1.2)).bind fun r904 =>
      (F104_0 (v.2.1, r904)).bind fun r905 =>
      bif r905 then
        (F105_0 (false, r904)).bind fun r906 =>
        bif (!r906.2.2) then
          some ((false, ((0 : Int), ((0 : Int), ((0 : Int), (0 : Int))))), false)
        else
          some ((false, r904), true)
      else
        (F105_0 (v.2.1, r904)).bind fun r907 =>
        bif (!r907.2.2) then
          some ((false, ((0 : Int), ((0 : Int), ((0 : Int), (0 : Int))))), false)
        else
          some ((v.2.1, r904), true)
    else
      (F103_0 (v.1.2, v.2.2)).bind fun r908 =>
      (F104_0 (v.1.1, r908)).bind fun r909 =>
      bif r909 then
        (F105_0 (false, r908)).bind fun r910 =>
        bif (!r910.2.2) then
          some ((false, ((0 : Int), ((0 : Int), ((0 : Int), (0 : Int))))), false)
        else
          some ((false, r908), true)
      else
        (F105_0 (v.1.1, r908)).bind fun r911 =>
        bif (!r911.2.2) then
          some ((false, ((0 : Int), ((0 : Int), ((0 : Int), (0 : Int))))), false)
        else
          some ((v.1.1, r908), true)

noncomputable def k81_0 : List (Known Try.prog E) := [Known.of envOk [9, 9] [(.agg [.keep, .keep, .keep, .keep]), (.agg [.keep, .keep, .keep, .keep])] v101_0 F101_0 w101_0 ok101_0, Known.of envOk [9] [(.agg [.keep, .keep, .keep, .keep, .keep])] v104_0 F104_0 w104_0 ok104_0, Known.of envOk [9] [(.agg [.keep, .keep, .keep, .keep, .keep])] v105_0 F105_0 w105_0 ok105_0, Known.of envOk [9, 9] [(.agg [.keep, .keep, .keep, .keep]), (.agg [.keep, .keep, .keep, .keep])] v102_0 F102_0 w102_0 ok102_0, Known.of envOk [9, 9] [(.agg [.keep, .keep, .keep, .keep]), (.agg [.keep, .keep, .keep, .keep])] v103_0 F103_0 w103_0 ok103_0]
noncomputable def L81_0 (n id : Nat) (st : St G) : Option ((Bool × Int × Int × Int × Int) × Bool) := none
set_option maxRecDepth 100000 in
theorem e81_0 (n : Nat) (v : (Bool × Int × Int × Int × Int) × Bool × Int × Int × Int × Int) : ev Try.prog E (oracle k81_0) Try.f81.ntmps (fun x => mem x []) (L81_0 n) (finA Try.prog E Try.f81.results.toList [] w81_0.alts) 4000 [.code (Try.f81.body.getD .skip)] (argSt (v81_0.enc v)) = F81_0 v := by kernel_rfl
theorem ok81_0 : FnOk Try.prog E 81 v81_0.enc F81_0 w81_0.enc :=
  fn_known (fn := Try.f81) (c := (Try.f81.body.getD .skip)) Try.func81 (by kernel_rfl) rfl envOk (oracle_ok k81_0) mixed v81_0 F81_0 w81_0 [] [] 4000 L81_0 (by kernel_rfl)
    (fun _ h => nomatch h) (fun v _ h => ⟨0, (e81_0 _ v).trans h⟩) (fun _ => by kernel_rfl) (fun _ => by kernel_rfl) (fun _ _ => by kernel_rfl)
/- chicane/chicaneref01.Sign -/
abbrev A107_0 : Type := Bool × Int × Int × Int × Int
abbrev R107_0 : Type := Int
def v107_0 : Pk G (Bool × Int × Int × Int × Int) := (Pk.fst (pk (Sh.fst (Sh.cons (Sh.agg (Sh.cons Sh.bool (Sh.cons (Sh.int .u64) (Sh.cons (Sh.int .u64) (Sh.cons (Sh.int .u64) (Sh.fst (Sh.cons (Sh.int .u64) Sh.nil))))))) Sh.nil)) Sh.hnil))
def w107_0 : Wk G Int := (Wk.one [.keep] (Pk.fst (pk (Sh.fst (Sh.cons (Sh.int .i64) Sh.nil)) Sh.hnil)))
def F107_0 (v : Bool × Int × Int × Int × Int) : Option Int :=
  (F104_0 v).bind fun r916 =>
  bif r916 then
    some (0 : Int)
  else
    bif v.1 then
      some (-1 : Int)
    else
      some (1 : Int)

noncomputable def k107_0 : List (Known Try.prog E) := [Known.of envOk [9] [(.agg [.keep, .keep, .keep, .keep, .keep])] v104_0 F104_0 w104_0 ok104_0]
noncomputable def L107_0 (n id : Nat) (st : St G) : Option Int := none
set_option maxRecDepth 100000 in
theorem e107_0 (n : Nat) (v : Bool × Int × Int × Int × Int) : ev Try.prog E (oracle k107_0) Try.f107.ntmps (fun x => mem x []) (L107_0 n) (finA Try.prog E Try.f107.results.toList [] w107_0.alts) 4000 [.code (Try.f107.body.getD .skip)] (argSt (v107_0.enc v)) = F107_0 v := by kernel_rfl
theorem ok107_0 : FnOk Try.prog E 107 v107_0.enc F107_0 w107_0.enc :=
  fn_known (fn := Try.f107) (c := (Try.f107.body.getD .skip)) Try.func107 (by kernel_rfl) rfl envOk (oracle_ok k107_0) mixed v107_0 F107_0 w107_0 [] [] 4000 L107_0 (by kernel_rfl)
    (fun _ h => nomatch h) (fun v _ h => ⟨0, (e107_0 _ v).trans h⟩) (fun _ => by kernel_rfl) (fun _ => by kernel_rfl) (fun _ _ => by kernel_rfl)
/- chicane/chicaneref01.Cmp -/
abbrev A83_0 : Type := (Bool × Int × Int × Int × Int) × Bool × Int × Int × Int × Int
abbrev R83_0 : Type := Int
def v83_0 : Pk G ((Bool × Int × Int × Int × Int) × Bool × Int × Int × Int × Int) := (Pk.fst (pk (Sh.cons (Sh.agg (Sh.cons Sh.bool (Sh.cons (Sh.int .u64) (Sh.cons (Sh.int .u64) (Sh.cons (Sh.int .u64) (Sh.fst (Sh.cons (Sh.int .u64) Sh.nil))))))) (Sh.fst (Sh.cons (Sh.agg (Sh.cons Sh.bool (Sh.cons (Sh.int .u64) (Sh.cons (Sh.int .u64) (Sh.cons (Sh.int .u64) (Sh.fst (Sh.cons (Sh.int .u64) Sh.nil))))))) Sh.nil))) Sh.hnil))
def w83_0 : Wk G Int := (Wk.one [.keep] (Pk.fst (pk (Sh.fst (Sh.cons (Sh.int .i64) Sh.nil)) Sh.hnil)))
def F83_0 (v : (Bool × Int × Int × Int × Int) × Bool × Int × Int × Int × Int) : Option Int :=
  (F107_0 v.1).bind fun r929 =>
  (F107_0 v.2).bind fun r930 =>
  bif (r929 != r930) then
    (F107_0 v.1).bind fun r931 =>
    (F107_0 v.2).bind fun r932 =>
    bif (decide (r931 < r932)) then
      some (-1 : Int)
    else
      some (1 : Int)
  else
    let x933 : Bool := ((v.1.2.1 == v.2.2.1) && ((v.1.2.2.1 == v.2.2.2.1) && ((v.1.2.2.2.1 == v.2.2.2.2.1) && ((v.1.2.2.2.2 == v.2.2.2.2.2) && true))))
    bif x933 then
      some (0 : Int)
    else
      (F102_0 (v.1.2, v.2.2)).bind fun r934 =>
      bif (r934 == v.1.1) then
        some (1 : Int)
      else
        some (-1 : Int)

noncomputable def k83_0 : List (Known Try.prog E) := [Known.of envOk [9] [(.agg [.keep, .keep, .keep, .keep, .keep])] v107_0 F107_0 w107_0 ok107_0, Known.of envOk [9, 9] [(.agg [.keep, .keep, .keep, .keep]), (.agg [.keep, .keep, .keep, .keep])] v102_0 F102_0 w102_0 ok102_0]
noncomputable def L83_0 (n id : Nat) (st : St G) : Option Int := none
set_option maxRecDepth 100000 in
theorem e83_0 (n : Nat) (v : (Bool × Int × Int × Int × Int) × Bool × Int × Int × Int × Int) : ev Try.prog E (oracle k83_0) Try.f83.ntmps (fun x => mem x []) (L83_0 n) (finA Try.prog E Try.f83.results.toList [] w83_0.alts) 4000 [.code (Try.f83.body.getD .skip)] (argSt (v83_0.enc v)) = F83_0 v := by kernel_rfl
theorem ok83_0 : FnOk Try.prog E 83 v83_0.enc F83_0 w83_0.enc :=
  fn_known (fn := Try.f83) (c := (Try.f83.body.getD .skip)) Try.func83 (by kernel_rfl) rfl envOk (oracle_ok k83_0) mixed v83_0 F83_0 w83_0 [] [] 4000 L83_0 (by kernel_rfl)
    (fun _ h => nomatch h) (fun v _ h => ⟨0, (e83_0 _ v).trans h⟩) (fun _ => by kernel_rfl) (fun _ => by kernel_rfl) (fun _ _ => by kernel_rfl)
/- chicane/chicaneref11.Nearest -/
abbrev A45_0 : Type := (List (Int × Int)) × Int × Int
abbrev R45_0 : Type := Int
def v45_0 : Pk G ((List (Int × Int)) × Int × Int) := (Pk.fst (pk (Sh.cons (Sh.ros 69) (Sh.fst (Sh.cons (Sh.agg (Sh.cons (Sh.int .i64) (Sh.fst (Sh.cons (Sh.int .i64) Sh.nil)))) Sh.nil))) Sh.hnil))
def w45_0 : Wk G Int := (Wk.one [.keep] (Pk.fst (pk (Sh.fst (Sh.cons (Sh.int .i64) Sh.nil)) Sh.hnil)))
def c45_0_6 : Pk G (((List (Int × Int)) × Int × Int) × (Bool × Int × Int × Int × Int) × Int × Int) := (pk (Sh.cons (Sh.ros 69) (Sh.snd (Sh.cons (Sh.ptr 0 0) (Sh.cons (Sh.int .i64) (Sh.snd (Sh.cons (Sh.ptr 1 0) (Sh.fst (Sh.cons (Sh.int .i64) Sh.nil)))))))) (Sh.hfix 1 146 (Sh.cons Sh.bool (Sh.cons (Sh.int .u64) (Sh.cons (Sh.int .u64) (Sh.cons (Sh.int .u64) (Sh.fst (Sh.cons (Sh.int .u64) Sh.nil)))))) (Sh.fst (Sh.hfix 0 69 (Sh.cons (Sh.int .i64) (Sh.fst (Sh.cons (Sh.int .i64) Sh.nil))) Sh.hnil))))
def B45_0_6 (K : ((((List (Int × Int)) × Int × Int) × (Bool × Int × Int × Int × Int) × Int × Int) → Option Int)) (v : ((List (Int × Int)) × Int × Int) × (Bool × Int × Int × Int × Int) × Int × Int) : Option Int :=
  bif (decide (v.1.2.2 < ((v.1.1).length : Int))) then
    (rdx v.1.1 v.1.2.2).bind fun (x954 : Int × Int) =>
    let x955 : Int := (IntKind.wrap .i64 (x954.1 - v.2.2.1))
    (rdx v.1.1 v.1.2.2).bind fun (x956 : Int × Int) =>
    let x957 : Int := (IntKind.wrap .i64 (x956.2 - v.2.2.2))
    (F82_0 (x955, x955)).bind fun r958 =>
    (F82_0 (x957, x957)).bind fun r959 =>
    (F81_0 (r958, r959)).bind fun r960 =>
    bif (decide (v.1.2.1 < (0 : Int))) then
      let x961 : Int := (IntKind.wrap .i64 (v.1.2.2 + (1 : Int)))
      K ((v.1.1, (v.1.2.2, x961)), (r960.1, v.2.2))
    else
      (F83_0 (r960.1, v.2.1)).bind fun r962 =>
      bif (decide (r962 < (0 : Int))) then
        let x963 : Int := (IntKind.wrap .i64 (v.1.2.2 + (1 : Int)))
        K ((v.1.1, (v.1.2.2, x963)), (r960.1, v.2.2))
      else
        let x964 : Int := (IntKind.wrap .i64 (v.1.2.2 + (1 : Int)))
        K ((v.1.1, (v.1.2.1, x964)), v.2)
  else
    some (v.1.2.1)

def E45_0 (K : ((((List (Int × Int)) × Int × Int) × (Bool × Int × Int × Int × Int) × Int × Int) → Option Int)) (v : (List (Int × Int)) × Int × Int) : Option Int :=
  (F80_0 v.1).bind fun r952 =>
  bif (!r952) then
    some (-1 : Int)
  else
    (F80_0 ([v.2] : List (Int × Int))).bind fun r953 =>
    bif (!r953) then
      some (-1 : Int)
    else
      K ((v.1, ((-1 : Int), (0 : Int))), ((false, ((0 : Int), ((0 : Int), ((0 : Int), (0 : Int))))), v.2))

def K45_0 : Nat → ((((List (Int × Int)) × Int × Int) × (Bool × Int × Int × Int × Int) × Int × Int) → Option Int)
  | 0 => (fun _ => none)
  | n + 1 => (B45_0_6 (K45_0 n))
def fuel45_0 (v : (List (Int × Int)) × Int × Int) : Nat := 1000
def F45_0 (v : (List (Int × Int)) × Int × Int) : Option Int := E45_0 (K45_0 (fuel45_0 v)) v
noncomputable def k45_0 : List (Known Try.prog E) := [Known.of envOk [7] [(.ros 69)] v80_0 F80_0 w80_0 ok80_0, Known.of envOk [1, 1] [.keep, .keep] v82_0 F82_0 w82_0 ok82_0, Known.of envOk [9, 9] [(.agg [.keep, .keep, .keep, .keep, .keep]), (.agg [.keep, .keep, .keep, .keep, .keep])] v81_0 F81_0 w81_0 ok81_0, Known.of envOk [9, 9] [(.agg [.keep, .keep, .keep, .keep, .keep]), (.agg [.keep, .keep, .keep, .keep, .keep])] v83_0 F83_0 w83_0 ok83_0]
def s45_0_6 : List (Nat × Pat) := [(0, (.ros 69)), (3, (.ptr 0 0 69 [.keep, .keep])), (5, .keep), (6, (.ptr 1 0 146 [.keep, .keep, .keep, .keep, .keep])), (7, .keep)]
noncomputable def L45_0 (n id : Nat) (st : St G) : Option Int := match Nat.beq id 6 with | true => cutK Try.prog s45_0_6 [] c45_0_6.dec (K45_0 n) st | false => none
set_option maxRecDepth 100000 in
theorem e45_0 (n : Nat) (v : (List (Int × Int)) × Int × Int) : ev Try.prog E (oracle k45_0) Try.f45.ntmps (fun x => mem x [6]) (L45_0 n) (finA Try.prog E Try.f45.results.toList [] w45_0.alts) 4000 [.code (Try.f45.body.getD .skip)] (argSt (v45_0.enc v)) = E45_0 (K45_0 n) v := by kernel_rfl
set_option maxRecDepth 100000 in
theorem b45_0_6 (n : Nat) (v : ((List (Int × Int)) × Int × Int) × (Bool × Int × Int × Int × Int) × Int × Int) : evCut Try.prog E (oracle k45_0) Try.f45.ntmps (fun x => mem x [6]) (L45_0 n) (finA Try.prog E Try.f45.results.toList [] w45_0.alts) 4000 (todoAt (Try.f45.body.getD .skip) 6) (cutSt s45_0_6 (c45_0_6.enc v)) = B45_0_6 (K45_0 n) v := by kernel_rfl
theorem ok45_0 : FnOk Try.prog E 45 v45_0.enc F45_0 w45_0.enc :=
  fn_known (fn := Try.f45) (c := (Try.f45.body.getD .skip)) Try.func45 (by kernel_rfl) rfl envOk (oracle_ok k45_0) mixed v45_0 F45_0 w45_0 [] [6] 4000 L45_0 (by kernel_rfl)
    (List.forall_mem_cons.2 ⟨⟨_, s45_0_6, c45_0_6.dec, c45_0_6.enc, fun n => (K45_0 n), c45_0_6.ok, fun _ _ => rfl, fun _ => rfl, fun n v _ h => (b45_0_6 n v).trans h⟩, fun _ h => (nomatch h)⟩) (fun v _ h => ⟨fuel45_0 v, (e45_0 _ v).trans h⟩) (fun _ => by kernel_rfl) (fun _ => by kernel_rfl) (fun _ _ => by kernel_rfl)
/- chicane/chicaneref42.Along -/
abbrev A22_0 : Type := (List (Int × Int)) × List Int × Int × Int
abbrev R22_0 : Type := Int
def v22_0 : Pk G ((List (Int × Int)) × List Int × Int × Int) := (Pk.fst (pk (Sh.cons (Sh.ros 69) (Sh.cons (Sh.ros 23) (Sh.fst (Sh.cons (Sh.agg (Sh.cons (Sh.int .i64) (Sh.fst (Sh.cons (Sh.int .i64) Sh.nil)))) Sh.nil)))) Sh.hnil))
def w22_0 : Wk G Int := (Wk.one [.keep] (Pk.fst (pk (Sh.fst (Sh.cons (Sh.int .i64) Sh.nil)) Sh.hnil)))
def F22_0 (v : (List (Int × Int)) × List Int × Int × Int) : Option Int :=
  (F45_0 (v.1, v.2.2)).bind fun r969 =>
  bif (decide (r969 < (0 : Int))) then
    some (0 : Int)
  else
    bif (decide (r969 ≥ ((v.2.1).length : Int))) then
      some (0 : Int)
    else
      (rdx v.2.1 r969).bind fun (x970 : Int) =>
      some (x970)

noncomputable def k22_0 : List (Known Try.prog E) := [Known.of envOk [7, 9] [(.ros 69), (.agg [.keep, .keep])] v45_0 F45_0 w45_0 ok45_0]
noncomputable def L22_0 (n id : Nat) (st : St G) : Option Int := none
set_option maxRecDepth 100000 in
theorem e22_0 (n : Nat) (v : (List (Int × Int)) × List Int × Int × Int) : ev Try.prog E (oracle k22_0) Try.f22.ntmps (fun x => mem x []) (L22_0 n) (finA Try.prog E Try.f22.results.toList [] w22_0.alts) 4000 [.code (Try.f22.body.getD .skip)] (argSt (v22_0.enc v)) = F22_0 v := by kernel_rfl
theorem ok22_0 : FnOk Try.prog E 22 v22_0.enc F22_0 w22_0.enc :=
  fn_known (fn := Try.f22) (c := (Try.f22.body.getD .skip)) Try.func22 (by kernel_rfl) rfl envOk (oracle_ok k22_0) mixed v22_0 F22_0 w22_0 [] [] 4000 L22_0 (by kernel_rfl)
    (fun _ h => nomatch h) (fun v _ h => ⟨0, (e22_0 _ v).trans h⟩) (fun _ => by kernel_rfl) (fun _ => by kernel_rfl) (fun _ _ => by kernel_rfl)
/- chicane/chicanelaw42.GhostAlong -/
abbrev A7_0 : Type := (List (Int × Int)) × List Int × Int × Int
abbrev R7_0 : Type := Bool
def v7_0 : Pk G ((List (Int × Int)) × List Int × Int × Int) := (Pk.fst (pk (Sh.cons (Sh.ros 69) (Sh.cons (Sh.ros 23) (Sh.fst (Sh.cons (Sh.agg (Sh.cons (Sh.int .i64) (Sh.fst (Sh.cons (Sh.int .i64) Sh.nil)))) Sh.nil)))) Sh.hnil))
def w7_0 : Wk G Bool := (Wk.one [.keep] (Pk.fst (pk (Sh.fst (Sh.cons Sh.bool Sh.nil)) Sh.hnil)))
def F7_0 (v : (List (Int × Int)) × List Int × Int × Int) : Option Bool :=
  bif (decide (((v.1).length : Int) > (100 : Int))) then
    some (true)
  else
    bif (decide (((v.2.1).length : Int) > (200 : Int))) then
      some (true)
    else
      (F21_0 v).bind fun r976 =>
      (F22_0 v).bind fun r977 =>
      bif (r976 == r977) then
        (F13_0 ()).bind fun r978 =>
        some (r978)
      else
        some (false)

noncomputable def k7_0 : List (Known Try.prog E) := [Known.of envOk [7, 7, 9] [(.ros 69), (.ros 23), (.agg [.keep, .keep])] v21_0 F21_0 w21_0 ok21_0, Known.of envOk [7, 7, 9] [(.ros 69), (.ros 23), (.agg [.keep, .keep])] v22_0 F22_0 w22_0 ok22_0, Known.of envOk [] [] v13_0 F13_0 w13_0 ok13_0]
noncomputable def L7_0 (n id : Nat) (st : St G) : Option Bool := none
set_option maxRecDepth 100000 in
theorem e7_0 (n : Nat) (v : (List (Int × Int)) × List Int × Int × Int) : ev Try.prog E (oracle k7_0) Try.f7.ntmps (fun x => mem x []) (L7_0 n) (finA Try.prog E Try.f7.results.toList [] w7_0.alts) 4000 [.code (Try.f7.body.getD .skip)] (argSt (v7_0.enc v)) = F7_0 v := by kernel_rfl
theorem ok7_0 : FnOk Try.prog E 7 v7_0.enc F7_0 w7_0.enc :=
  fn_known (fn := Try.f7) (c := (Try.f7.body.getD .skip)) Try.func7 (by kernel_rfl) rfl envOk (oracle_ok k7_0) mixed v7_0 F7_0 w7_0 [] [] 4000 L7_0 (by kernel_rfl)
    (fun _ h => nomatch h) (fun v _ h => ⟨0, (e7_0 _ v).trans h⟩) (fun _ => by kernel_rfl) (fun _ => by kernel_rfl) (fun _ _ => by kernel_rfl)
def Dom3_0 (v : List Int × Int × Int) : Prop := (((v.1).length ≤ maxLen ∧ ∀ x ∈ v.1, (Lit.int .i64 x).wf = true)) ∧ (Lit.int .i64 v.2.1).wf = true ∧ (Lit.int .i64 v.2.2).wf = true
def Dom4_0 (v : List Int) : Prop := (((v).length ≤ maxLen ∧ ∀ x ∈ v, (Lit.int .i64 x).wf = true))
def Dom7_0 (v : (List (Int × Int)) × List Int × Int × Int) : Prop := (((v.1).length ≤ maxLen ∧ ∀ x ∈ v.1, (Lit.int .i64 x.1).wf = true ∧ (Lit.int .i64 x.2).wf = true)) ∧ (((v.2.1).length ≤ maxLen ∧ ∀ x ∈ v.2.1, (Lit.int .i64 x).wf = true)) ∧ ((Lit.int .i64 v.2.2.1).wf = true ∧ (Lit.int .i64 v.2.2.2).wf = true)
end Go.Proofs.Ytfhhpfhmplgndaa.Ev
