import Derived.Test.YtgjglkogengmbaaXEnv
set_option linter.unusedVariables false
namespace Go.Proofs.Ytgjglkogengmbaa.Ev
open Go Go.RowKit
/- chicane/chicanelaw43.near -/
abbrev A48_0 : Type := Int
abbrev R48_0 : Type := Bool
def v48_0 : Pk G Int := (Pk.fst (pk (Sh.fst (Sh.cons (Sh.int .i64) Sh.nil)) Sh.hnil))
def w48_0 : Wk G Bool := (Wk.one [.keep] (Pk.fst (pk (Sh.fst (Sh.cons Sh.bool Sh.nil)) Sh.hnil)))
def F48_0 (v : Int) : Option Bool :=
  bif (decide (v ≤ (18014398509481984 : Int))) then
    some (decide (v ≥ (-18014398509481984 : Int)))
  else
    some (false)

noncomputable def k48_0 : List (Known Try.prog E) := []
noncomputable def L48_0 (n id : Nat) (st : St G) : Option Bool := none
set_option maxRecDepth 100000 in
theorem e48_0 (n : Nat) (v : Int) : ev Try.prog E (oracle k48_0) Try.f48.ntmps (fun x => mem x []) (L48_0 n) (finF Try.prog E Try.f48.results.toList [[]] w48_0.alts) 4000 [.code (Try.f48.body.getD .skip)] (argSt (v48_0.enc v)) = F48_0 v := by kernel_rfl
theorem ok48_0 : FnOk Try.prog E 48 v48_0.enc F48_0 w48_0.enc :=
  fn_known (fn := Try.f48) (c := (Try.f48.body.getD .skip)) Try.func48 (by kernel_rfl) rfl envOk (oracle_ok k48_0) mixed v48_0 F48_0 w48_0 [] [[]] (by kernel_rfl) [] 4000 L48_0 (by kernel_rfl)
    (fun _ h => nomatch h) (fun v _ h => ⟨0, (e48_0 _ v).trans h⟩) (fun _ => by kernel_rfl) (fun _ => by kernel_rfl) (fun _ _ => by kernel_rfl)
/- chicane/chicanelaw43.times -/
abbrev A27_0 : Type := Int × (List (Int × Bool)) × List Int
abbrev R27_0 : Type := Bool
def v27_0 : Pk G (Int × (List (Int × Bool)) × List Int) := (Pk.fst (pk (Sh.fst (Sh.cons (Sh.agg (Sh.cons (Sh.int .i64) (Sh.cons (Sh.ros 59) (Sh.fst (Sh.cons (Sh.ros 51) Sh.nil))))) Sh.nil)) Sh.hnil))
def w27_0 : Wk G Bool := (Wk.one [.keep] (Pk.fst (pk (Sh.fst (Sh.cons Sh.bool Sh.nil)) Sh.hnil)))
def c27_0_2 : Pk G (Int × Int × (List (Int × Bool)) × List Int) := (pk (Sh.snd (Sh.cons (Sh.ptr 0 0) (Sh.fst (Sh.cons (Sh.int .i64) Sh.nil)))) (Sh.fst (Sh.hfix 0 57 (Sh.cons (Sh.int .i64) (Sh.cons (Sh.ros 59) (Sh.fst (Sh.cons (Sh.ros 51) Sh.nil)))) Sh.hnil)))
def c27_0_7 : Pk G (Int × Int × (List (Int × Bool)) × List Int) := (pk (Sh.snd (Sh.cons (Sh.ptr 0 0) (Sh.fst (Sh.cons (Sh.int .i64) Sh.nil)))) (Sh.fst (Sh.hfix 0 57 (Sh.cons (Sh.int .i64) (Sh.cons (Sh.ros 59) (Sh.fst (Sh.cons (Sh.ros 51) Sh.nil)))) Sh.hnil)))
def B27_0_2 (K : ((Int × Int × (List (Int × Bool)) × List Int) → Option Bool) × ((Int × Int × (List (Int × Bool)) × List Int) → Option Bool)) (v : Int × Int × (List (Int × Bool)) × List Int) : Option Bool :=
  bif (decide (v.1 < ((v.2.2.1).length : Int))) then
    (rdx v.2.2.1 v.1).bind fun (x21 : Int × Bool) =>
    (F48_0 x21.1).bind fun r22 =>
    bif (!r22) then
      some (false)
    else
      let x23 : Int := (IntKind.wrap .i64 (v.1 + (1 : Int)))
      K.1 (x23, v.2)
  else
    K.2 ((0 : Int), v.2)

def B27_0_7 (K : ((Int × Int × (List (Int × Bool)) × List Int) → Option Bool) × ((Int × Int × (List (Int × Bool)) × List Int) → Option Bool)) (v : Int × Int × (List (Int × Bool)) × List Int) : Option Bool :=
  bif (decide (v.1 < ((v.2.2.2).length : Int))) then
    (rdx v.2.2.2 v.1).bind fun (x24 : Int) =>
    (F48_0 x24).bind fun r25 =>
    bif (!r25) then
      some (false)
    else
      let x26 : Int := (IntKind.wrap .i64 (v.1 + (1 : Int)))
      K.2 (x26, v.2)
  else
    some (true)

def E27_0 (K : ((Int × Int × (List (Int × Bool)) × List Int) → Option Bool) × ((Int × Int × (List (Int × Bool)) × List Int) → Option Bool)) (v : Int × (List (Int × Bool)) × List Int) : Option Bool :=
  K.1 ((0 : Int), v)

def K27_0 : Nat → ((Int × Int × (List (Int × Bool)) × List Int) → Option Bool) × ((Int × Int × (List (Int × Bool)) × List Int) → Option Bool)
  | 0 => (fun _ => none, fun _ => none)
  | n + 1 => (B27_0_2 (K27_0 n), B27_0_7 (K27_0 n))
def fuel27_0 (v : Int × (List (Int × Bool)) × List Int) : Nat := 1000
def F27_0 (v : Int × (List (Int × Bool)) × List Int) : Option Bool := E27_0 (K27_0 (fuel27_0 v)) v
noncomputable def k27_0 : List (Known Try.prog E) := [Known.of envOk [1] [.keep] v48_0 F48_0 w48_0 ok48_0]
def s27_0_7 : List (Nat × Pat) := [(1, (.ptr 0 0 57 [.keep, (.ros 59), (.ros 51)])), (4, .keep)]
def s27_0_2 : List (Nat × Pat) := [(1, (.ptr 0 0 57 [.keep, (.ros 59), (.ros 51)])), (3, .keep)]
noncomputable def L27_0 (n id : Nat) (st : St G) : Option Bool := match Nat.beq id 2 with | true => cutK Try.prog s27_0_2 [] c27_0_2.dec (K27_0 n).1 st | false => match Nat.beq id 7 with | true => cutK Try.prog s27_0_7 [] c27_0_7.dec (K27_0 n).2 st | false => none
set_option maxRecDepth 100000 in
theorem e27_0 (n : Nat) (v : Int × (List (Int × Bool)) × List Int) : ev Try.prog E (oracle k27_0) Try.f27.ntmps (fun x => mem x [2, 7]) (L27_0 n) (finF Try.prog E Try.f27.results.toList [[]] w27_0.alts) 4000 [.code (Try.f27.body.getD .skip)] (argSt (v27_0.enc v)) = E27_0 (K27_0 n) v := by kernel_rfl
set_option maxRecDepth 100000 in
theorem b27_0_2 (n : Nat) (v : Int × Int × (List (Int × Bool)) × List Int) : evCut Try.prog E (oracle k27_0) false 27 Try.f27.ntmps (fun x => mem x [2, 7]) (L27_0 n) (finF Try.prog E Try.f27.results.toList [[]] w27_0.alts) 4000 (todoAt (Try.f27.body.getD .skip) 2) (cutSt s27_0_2 (c27_0_2.enc v)) = B27_0_2 (K27_0 n) v := by kernel_rfl
set_option maxRecDepth 100000 in
theorem b27_0_7 (n : Nat) (v : Int × Int × (List (Int × Bool)) × List Int) : evCut Try.prog E (oracle k27_0) false 27 Try.f27.ntmps (fun x => mem x [2, 7]) (L27_0 n) (finF Try.prog E Try.f27.results.toList [[]] w27_0.alts) 4000 (todoAt (Try.f27.body.getD .skip) 7) (cutSt s27_0_7 (c27_0_7.enc v)) = B27_0_7 (K27_0 n) v := by kernel_rfl
theorem ok27_0 : FnOk Try.prog E 27 v27_0.enc F27_0 w27_0.enc :=
  fn_known (fn := Try.f27) (c := (Try.f27.body.getD .skip)) Try.func27 (by kernel_rfl) rfl envOk (oracle_ok k27_0) mixed v27_0 F27_0 w27_0 [] [[]] (by kernel_rfl) [2, 7] 4000 L27_0 (by kernel_rfl)
    (List.forall_mem_cons.2 ⟨⟨_, [], s27_0_2, c27_0_2.dec, c27_0_2.enc, fun n => (K27_0 n).1, c27_0_2.ok, fun _ _ => rfl, fun _ => rfl, by kernel_rfl, fun n v _ h => (b27_0_2 n v).trans h⟩, List.forall_mem_cons.2 ⟨⟨_, [], s27_0_7, c27_0_7.dec, c27_0_7.enc, fun n => (K27_0 n).2, c27_0_7.ok, fun _ _ => rfl, fun _ => rfl, by kernel_rfl, fun n v _ h => (b27_0_7 n v).trans h⟩, fun _ h => (nomatch h)⟩⟩) (fun v _ h => ⟨fuel27_0 v, (e27_0 _ v).trans h⟩) (fun _ => by kernel_rfl) (fun _ => by kernel_rfl) (fun _ _ => by kernel_rfl)
/- chicane/chicanelaw43.few -/
abbrev A12_0 : Type := List (Int × (List (Int × Bool)) × List Int)
abbrev R12_0 : Type := Bool
def v12_0 : Pk G (List (Int × (List (Int × Bool)) × List Int)) := (Pk.fst (pk (Sh.fst (Sh.cons (Sh.ros 57) Sh.nil)) Sh.hnil))
def w12_0 : Wk G Bool := (Wk.one [.keep] (Pk.fst (pk (Sh.fst (Sh.cons Sh.bool Sh.nil)) Sh.hnil)))
def c12_0_2 : Pk G ((List (Int × (List (Int × Bool)) × List Int)) × Int) := (Pk.fst (pk (Sh.cons (Sh.ros 57) (Sh.fst (Sh.cons (Sh.int .i64) Sh.nil))) Sh.hnil))
def B12_0_2 (K : (((List (Int × (List (Int × Bool)) × List Int)) × Int) → Option Bool)) (v : (List (Int × (List (Int × Bool)) × List Int)) × Int) : Option Bool :=
  bif (decide (v.2 < ((v.1).length : Int))) then
    bif (decide (v.2 < (50 : Int))) then
      (rdx v.1 v.2).bind fun (x35 : Int × (List (Int × Bool)) × List Int) =>
      bif (decide (((x35.2.1).length : Int) > (100 : Int))) then
        some (false)
      else
        (rdx v.1 v.2).bind fun (x36 : Int × (List (Int × Bool)) × List Int) =>
        bif (decide (((x36.2.2).length : Int) > (300 : Int))) then
          some (false)
        else
          (rdx v.1 v.2).bind fun (x37 : Int × (List (Int × Bool)) × List Int) =>
          (F27_0 x37).bind fun r38 =>
          bif (!r38) then
            some (false)
          else
            let x39 : Int := (IntKind.wrap .i64 (v.2 + (1 : Int)))
            K (v.1, x39)
    else
      some (decide (((v.1).length : Int) ≤ (50 : Int)))
  else
    some (decide (((v.1).length : Int) ≤ (50 : Int)))

def E12_0 (K : (((List (Int × (List (Int × Bool)) × List Int)) × Int) → Option Bool)) (v : List (Int × (List (Int × Bool)) × List Int)) : Option Bool :=
  K (v, (0 : Int))

def K12_0 : Nat → (((List (Int × (List (Int × Bool)) × List Int)) × Int) → Option Bool)
  | 0 => (fun _ => none)
  | n + 1 => (B12_0_2 (K12_0 n))
def fuel12_0 (v : List (Int × (List (Int × Bool)) × List Int)) : Nat := 1000
def F12_0 (v : List (Int × (List (Int × Bool)) × List Int)) : Option Bool := E12_0 (K12_0 (fuel12_0 v)) v
noncomputable def k12_0 : List (Known Try.prog E) := [Known.of envOk [9] [(.agg [.keep, (.ros 59), (.ros 51)])] v27_0 F27_0 w27_0 ok27_0]
def s12_0_2 : List (Nat × Pat) := [(0, (.ros 57)), (3, .keep)]
noncomputable def L12_0 (n id : Nat) (st : St G) : Option Bool := match Nat.beq id 2 with | true => cutK Try.prog s12_0_2 [] c12_0_2.dec (K12_0 n) st | false => none
set_option maxRecDepth 100000 in
theorem e12_0 (n : Nat) (v : List (Int × (List (Int × Bool)) × List Int)) : ev Try.prog E (oracle k12_0) Try.f12.ntmps (fun x => mem x [2]) (L12_0 n) (finF Try.prog E Try.f12.results.toList [[]] w12_0.alts) 4000 [.code (Try.f12.body.getD .skip)] (argSt (v12_0.enc v)) = E12_0 (K12_0 n) v := by kernel_rfl
set_option maxRecDepth 100000 in
theorem b12_0_2 (n : Nat) (v : (List (Int × (List (Int × Bool)) × List Int)) × Int) : evCut Try.prog E (oracle k12_0) false 12 Try.f12.ntmps (fun x => mem x [2]) (L12_0 n) (finF Try.prog E Try.f12.results.toList [[]] w12_0.alts) 4000 (todoAt (Try.f12.body.getD .skip) 2) (cutSt s12_0_2 (c12_0_2.enc v)) = B12_0_2 (K12_0 n) v := by kernel_rfl
theorem ok12_0 : FnOk Try.prog E 12 v12_0.enc F12_0 w12_0.enc :=
  fn_known (fn := Try.f12) (c := (Try.f12.body.getD .skip)) Try.func12 (by kernel_rfl) rfl envOk (oracle_ok k12_0) mixed v12_0 F12_0 w12_0 [] [[]] (by kernel_rfl) [2] 4000 L12_0 (by kernel_rfl)
    (List.forall_mem_cons.2 ⟨⟨_, [], s12_0_2, c12_0_2.dec, c12_0_2.enc, fun n => (K12_0 n), c12_0_2.ok, fun _ _ => rfl, fun _ => rfl, by kernel_rfl, fun n v _ h => (b12_0_2 n v).trans h⟩, fun _ h => (nomatch h)⟩) (fun v _ h => ⟨fuel12_0 v, (e12_0 _ v).trans h⟩) (fun _ => by kernel_rfl) (fun _ => by kernel_rfl) (fun _ _ => by kernel_rfl)
/- cmp.isNaN[chicane/api.Time] -/
abbrev A52_0 : Type := Int
abbrev R52_0 : Type := Bool
def v52_0 : Pk G Int := (Pk.fst (pk (Sh.fst (Sh.cons (Sh.int .i64) Sh.nil)) Sh.hnil))
def w52_0 : Wk G Bool := (Wk.one [.keep] (Pk.fst (pk (Sh.fst (Sh.cons Sh.bool Sh.nil)) Sh.hnil)))
def F52_0 (v : Int) : Option Bool :=
  some (v != v)

noncomputable def k52_0 : List (Known Try.prog E) := []
noncomputable def L52_0 (n id : Nat) (st : St G) : Option Bool := none
set_option maxRecDepth 100000 in
theorem e52_0 (n : Nat) (v : Int) : ev Try.prog E (oracle k52_0) Try.f52.ntmps (fun x => mem x []) (L52_0 n) (finF Try.prog E Try.f52.results.toList [[]] w52_0.alts) 4000 [.code (Try.f52.body.getD .skip)] (argSt (v52_0.enc v)) = F52_0 v := by kernel_rfl
theorem ok52_0 : FnOk Try.prog E 52 v52_0.enc F52_0 w52_0.enc :=
  fn_known (fn := Try.f52) (c := (Try.f52.body.getD .skip)) Try.func52 (by kernel_rfl) rfl envOk (oracle_ok k52_0) mixed v52_0 F52_0 w52_0 [] [[]] (by kernel_rfl) [] 4000 L52_0 (by kernel_rfl)
    (fun _ h => nomatch h) (fun v _ h => ⟨0, (e52_0 _ v).trans h⟩) (fun _ => by kernel_rfl) (fun _ => by kernel_rfl) (fun _ _ => by kernel_rfl)
/- cmp.Compare[chicane/api.Time] -/
abbrev A32_0 : Type := Int × Int
abbrev R32_0 : Type := Int
def v32_0 : Pk G (Int × Int) := (Pk.fst (pk (Sh.cons (Sh.int .i64) (Sh.fst (Sh.cons (Sh.int .i64) Sh.nil))) Sh.hnil))
def w32_0 : Wk G Int := (Wk.one [.keep] (Pk.fst (pk (Sh.fst (Sh.cons (Sh.int .i64) Sh.nil)) Sh.hnil)))
def F32_0 (v : Int × Int) : Option Int :=
  (F52_0 v.1).bind fun r57 =>
  (F52_0 v.2).bind fun r58 =>
  bif r57 then
    bif r58 then
      some (0 : Int)
    else
      some (-1 : Int)
  else
    bif r58 then
      some (1 : Int)
    else
      bif (decide (v.1 < v.2)) then
        some (-1 : Int)
      else
        bif (decide (v.1 > v.2)) then
          some (1 : Int)
        else
          some (0 : Int)

noncomputable def k32_0 : List (Known Try.prog E) := [Known.of envOk [1] [.keep] v52_0 F52_0 w52_0 ok52_0]
noncomputable def L32_0 (n id : Nat) (st : St G) : Option Int := none
set_option maxRecDepth 100000 in
theorem e32_0 (n : Nat) (v : Int × Int) : ev Try.prog E (oracle k32_0) Try.f32.ntmps (fun x => mem x []) (L32_0 n) (finF Try.prog E Try.f32.results.toList [[]] w32_0.alts) 4000 [.code (Try.f32.body.getD .skip)] (argSt (v32_0.enc v)) = F32_0 v := by kernel_rfl
theorem ok32_0 : FnOk Try.prog E 32 v32_0.enc F32_0 w32_0.enc :=
  fn_known (fn := Try.f32) (c := (Try.f32.body.getD .skip)) Try.func32 (by kernel_rfl) rfl envOk (oracle_ok k32_0) mixed v32_0 F32_0 w32_0 [] [[]] (by kernel_rfl) [] 4000 L32_0 (by kernel_rfl)
    (fun _ h => nomatch h) (fun v _ h => ⟨0, (e32_0 _ v).trans h⟩) (fun _ => by kernel_rfl) (fun _ => by kernel_rfl) (fun _ _ => by kernel_rfl)
/- chicane/run.Best$1 -/
abbrev A50_0 : Type := (Int × Int) × List (Int × Bool)
abbrev R50_0 : Type := Int × List (Int × Bool)
def v50_0 : Pk G ((Int × Int) × List (Int × Bool)) := (pk (Sh.cons (Sh.int .i64) (Sh.fst (Sh.cons (Sh.int .i64) (Sh.snd (Sh.cons (Sh.ptr 0 0) Sh.nil))))) (Sh.fst (Sh.hfix 0 54 (Sh.fst (Sh.cons (Sh.ros 59) Sh.nil)) Sh.hnil)))
def w50_0 : Wk G (Int × List (Int × Bool)) := (Wk.one [.keep] (pk (Sh.fst (Sh.cons (Sh.int .i64) Sh.nil)) (Sh.fst (Sh.hfix 0 54 (Sh.fst (Sh.cons (Sh.ros 59) Sh.nil)) Sh.hnil))))
def F50_0 (v : (Int × Int) × List (Int × Bool)) : Option (Int × List (Int × Bool)) :=
  (rdx v.2 v.1.1).bind fun (x63 : Int × Bool) =>
  (rdx v.2 v.1.2).bind fun (x64 : Int × Bool) =>
  (F32_0 (x63.1, x64.1)).bind fun r65 =>
  some (r65, v.2)

noncomputable def k50_0 : List (Known Try.prog E) := [Known.of envOk [1, 1] [.keep, .keep] v32_0 F32_0 w32_0 ok32_0]
noncomputable def L50_0 (n id : Nat) (st : St G) : Option (Int × List (Int × Bool)) := none
set_option maxRecDepth 100000 in
theorem e50_0 (n : Nat) (v : (Int × Int) × List (Int × Bool)) : ev Try.prog E (oracle k50_0) Try.f50.ntmps (fun x => mem x []) (L50_0 n) (finF Try.prog E Try.f50.results.toList [[(.ptr 0 0 54 [(.ros 59)])]] w50_0.alts) 4000 [.code (Try.f50.body.getD .skip)] (argSt (v50_0.enc v)) = F50_0 v := by kernel_rfl
theorem ok50_0 : FnOk Try.prog E 50 v50_0.enc F50_0 w50_0.enc :=
  fn_known (fn := Try.f50) (c := (Try.f50.body.getD .skip)) Try.func50 (by kernel_rfl) rfl envOk (oracle_ok k50_0) mixed v50_0 F50_0 w50_0 [(.ptr 0 0 54 [(.ros 59)])] [[(.ptr 0 0 54 [(.ros 59)])]] (by kernel_rfl) [] 4000 L50_0 (by kernel_rfl)
    (fun _ h => nomatch h) (fun v _ h => ⟨0, (e50_0 _ v).trans h⟩) (fun _ => by kernel_rfl) (fun _ => by kernel_rfl) (fun _ _ => by kernel_rfl)
/- slices.MinFunc[[]int,int] -/
abbrev A49_0 : Type := List Int × List (Int × Bool)
abbrev R49_0 : Type := Int × List (Int × Bool)
def v49_0 : Pk G (List Int × List (Int × Bool)) := (pk (Sh.fst (Sh.cons (Sh.ros 3) (Sh.snd (Sh.cons (Sh.snd (Sh.fn (.func 50) Sh.nil (Sh.snd (Sh.cons (Sh.ptr 0 0) Sh.nil)))) Sh.nil)))) (Sh.fst (Sh.hfix 0 54 (Sh.fst (Sh.cons (Sh.ros 59) Sh.nil)) Sh.hnil)))
def w49_0 : Wk G (Int × List (Int × Bool)) := (Wk.one [.keep] (pk (Sh.fst (Sh.cons (Sh.int .i64) Sh.nil)) (Sh.fst (Sh.hfix 0 54 (Sh.fst (Sh.cons (Sh.ros 59) Sh.nil)) Sh.hnil))))
def c49_0_5 : Pk G ((List Int × Int × Int) × List (Int × Bool)) := (pk (Sh.cons (Sh.ros 3) (Sh.snd (Sh.cons (Sh.snd (Sh.fn (.func 50) Sh.nil (Sh.snd (Sh.cons (Sh.ptr 0 0) Sh.nil)))) (Sh.cons (Sh.int .i64) (Sh.fst (Sh.cons (Sh.int .i64) Sh.nil)))))) (Sh.fst (Sh.hfix 0 54 (Sh.fst (Sh.cons (Sh.ros 59) Sh.nil)) Sh.hnil)))
def B49_0_5 (K : (((List Int × Int × Int) × List (Int × Bool)) → Option (Int × List (Int × Bool)))) (v : (List Int × Int × Int) × List (Int × Bool)) : Option (Int × List (Int × Bool)) :=
  bif (decide (v.1.2.2 < ((v.1.1).length : Int))) then
    (rdx v.1.1 v.1.2.2).bind fun (x78 : Int) =>
    (F50_0 ((x78, v.1.2.1), v.2)).bind fun r79 =>
    bif (decide (r79.1 < (0 : Int))) then
      (rdx v.1.1 v.1.2.2).bind fun (x80 : Int) =>
      let x81 : Int := (IntKind.wrap .i64 (v.1.2.2 + (1 : Int)))
      K ((v.1.1, (x80, x81)), r79.2)
    else
      let x82 : Int := (IntKind.wrap .i64 (v.1.2.2 + (1 : Int)))
      K ((v.1.1, (v.1.2.1, x82)), r79.2)
  else
    some (v.1.2.1, v.2)

def E49_0 (K : (((List Int × Int × Int) × List (Int × Bool)) → Option (Int × List (Int × Bool)))) (v : List Int × List (Int × Bool)) : Option (Int × List (Int × Bool)) :=
  bif (decide (((v.1).length : Int) < (1 : Int))) then
    none
  else
    (rdx v.1 (0 : Int)).bind fun (x77 : Int) =>
    K ((v.1, (x77, (1 : Int))), v.2)

def K49_0 : Nat → (((List Int × Int × Int) × List (Int × Bool)) → Option (Int × List (Int × Bool)))
  | 0 => (fun _ => none)
  | n + 1 => (B49_0_5 (K49_0 n))
def fuel49_0 (v : List Int × List (Int × Bool)) : Nat := 1000
def F49_0 (v : List Int × List (Int × Bool)) : Option (Int × List (Int × Bool)) := E49_0 (K49_0 (fuel49_0 v)) v
noncomputable def k49_0 : List (Known Try.prog E) := [Known.of envOk [1, 1, 5] [.keep, .keep, (.ptr 0 0 54 [(.ros 59)])] v50_0 F50_0 w50_0 ok50_0]
def s49_0_5 : List (Nat × Pat) := [(0, (.ros 3)), (1, (.fn (.func 50) [] [(.ptr 0 0 54 [])])), (5, .keep), (6, .keep)]
noncomputable def L49_0 (n id : Nat) (st : St G) : Option (Int × List (Int × Bool)) := match Nat.beq id 5 with | true => cutK Try.prog s49_0_5 [(.ptr 0 0 54 [(.ros 59)])] c49_0_5.dec (K49_0 n) st | false => none
set_option maxRecDepth 100000 in
theorem e49_0 (n : Nat) (v : List Int × List (Int × Bool)) : ev Try.prog E (oracle k49_0) Try.f49.ntmps (fun x => mem x [5]) (L49_0 n) (finF Try.prog E Try.f49.results.toList [[(.ptr 0 0 54 [(.ros 59)])]] w49_0.alts) 4000 [.code (Try.f49.body.getD .skip)] (argSt (v49_0.enc v)) = E49_0 (K49_0 n) v := by kernel_rfl
set_option maxRecDepth 100000 in
theorem b49_0_5 (n : Nat) (v : (List Int × Int × Int) × List (Int × Bool)) : evCut Try.prog E (oracle k49_0) false 49 Try.f49.ntmps (fun x => mem x [5]) (L49_0 n) (finF Try.prog E Try.f49.results.toList [[(.ptr 0 0 54 [(.ros 59)])]] w49_0.alts) 4000 (todoAt (Try.f49.body.getD .skip) 5) (cutSt s49_0_5 (c49_0_5.enc v)) = B49_0_5 (K49_0 n) v := by kernel_rfl
theorem ok49_0 : FnOk Try.prog E 49 v49_0.enc F49_0 w49_0.enc :=
  fn_known (fn := Try.f49) (c := (Try.f49.body.getD .skip)) Try.func49 (by kernel_rfl) rfl envOk (oracle_ok k49_0) mixed v49_0 F49_0 w49_0 [(.ptr 0 0 54 [(.ros 59)])] [[(.ptr 0 0 54 [(.ros 59)])]] (by kernel_rfl) [5] 4000 L49_0 (by kernel_rfl)
    (List.forall_mem_cons.2 ⟨⟨_, [(.ptr 0 0 54 [(.ros 59)])], s49_0_5, c49_0_5.dec, c49_0_5.enc, fun n => (K49_0 n), c49_0_5.ok, fun _ _ => rfl, fun _ => rfl, by kernel_rfl, fun n v _ h => (b49_0_5 n v).trans h⟩, fun _ h => (nomatch h)⟩) (fun v _ h => ⟨fuel49_0 v, (e49_0 _ v).trans h⟩) (fun _ => by kernel_rfl) (fun _ => by kernel_rfl) (fun _ _ => by kernel_rfl)
/- slices.MinFunc[[]int,int] -/
abbrev A49_1 : Type := (List (Int × Bool)) × List Int
abbrev R49_1 : Type := Int × (List (Int × Bool)) × List Int
def v49_1 : Pk G ((List (Int × Bool)) × List Int) := (Pk.snd (pk (Sh.snd (Sh.cons (Sh.osl 0) (Sh.snd (Sh.cons (Sh.snd (Sh.fn (.func 50) Sh.nil (Sh.snd (Sh.cons (Sh.ptr 1 0) Sh.nil)))) Sh.nil)))) (Sh.hfix 1 54 (Sh.fst (Sh.cons (Sh.ros 59) Sh.nil)) (Sh.fst (Sh.hrow 0 3 Sh.hnil)))))
def w49_1 : Wk G (Int × (List (Int × Bool)) × List Int) := (Wk.one [.keep] (pk (Sh.fst (Sh.cons (Sh.int .i64) Sh.nil)) (Sh.hfix 1 54 (Sh.fst (Sh.cons (Sh.ros 59) Sh.nil)) (Sh.fst (Sh.hrow 0 3 Sh.hnil)))))
def c49_1_5 : Pk G ((Int × Int) × (List (Int × Bool)) × List Int) := (pk (Sh.snd (Sh.cons (Sh.osl 0) (Sh.snd (Sh.cons (Sh.snd (Sh.fn (.func 50) Sh.nil (Sh.snd (Sh.cons (Sh.ptr 1 0) Sh.nil)))) (Sh.cons (Sh.int .i64) (Sh.fst (Sh.cons (Sh.int .i64) Sh.nil))))))) (Sh.hfix 1 54 (Sh.fst (Sh.cons (Sh.ros 59) Sh.nil)) (Sh.fst (Sh.hrow 0 3 Sh.hnil))))
def B49_1_5 (K : (((Int × Int) × (List (Int × Bool)) × List Int) → Option (Int × (List (Int × Bool)) × List Int))) (v : (Int × Int) × (List (Int × Bool)) × List Int) : Option (Int × (List (Int × Bool)) × List Int) :=
  bif (decide (v.1.2 < ((v.2.2).length : Int))) then
    (idx v.1.2 (v.2.2).length).bind fun (x105 : Nat) =>
    ((v.2.2)[x105]?).bind fun (x106 : Int) =>
    (F50_0 ((x106, v.1.1), v.2.1)).bind fun r107 =>
    bif (decide (r107.1 < (0 : Int))) then
      (idx v.1.2 (v.2.2).length).bind fun (x108 : Nat) =>
      ((v.2.2)[x108]?).bind fun (x109 : Int) =>
      let x110 : Int := (IntKind.wrap .i64 (v.1.2 + (1 : Int)))
      K ((x109, x110), (r107.2, v.2.2))
    else
      let x111 : Int := (IntKind.wrap .i64 (v.1.2 + (1 : Int)))
      K ((v.1.1, x111), (r107.2, v.2.2))
  else
    some (v.1.1, v.2)

def E49_1 (K : (((Int × Int) × (List (Int × Bool)) × List Int) → Option (Int × (List (Int × Bool)) × List Int))) (v : (List (Int × Bool)) × List Int) : Option (Int × (List (Int × Bool)) × List Int) :=
  bif (decide (((v.2).length : Int) < (1 : Int))) then
    none
  else
    (idx (0 : Int) (v.2).length).bind fun (x103 : Nat) =>
    ((v.2)[x103]?).bind fun (x104 : Int) =>
    K ((x104, (1 : Int)), v)

def K49_1 : Nat → (((Int × Int) × (List (Int × Bool)) × List Int) → Option (Int × (List (Int × Bool)) × List Int))
  | 0 => (fun _ => none)
  | n + 1 => (B49_1_5 (K49_1 n))
def fuel49_1 (v : (List (Int × Bool)) × List Int) : Nat := 1000
def F49_1 (v : (List (Int × Bool)) × List Int) : Option (Int × (List (Int × Bool)) × List Int) := E49_1 (K49_1 (fuel49_1 v)) v
noncomputable def k49_1 : List (Known Try.prog E) := [Known.of envOk [1, 1, 5] [.keep, .keep, (.ptr 0 0 54 [(.ros 59)])] v50_0 F50_0 w50_0 ok50_0]
def s49_1_5 : List (Nat × Pat) := [(0, (.own 0 3)), (1, (.fn (.func 50) [] [(.ptr 1 0 54 [])])), (5, .keep), (6, .keep)]
noncomputable def L49_1 (n id : Nat) (st : St G) : Option (Int × (List (Int × Bool)) × List Int) := match Nat.beq id 5 with | true => cutK Try.prog s49_1_5 [(.own 0 3), (.ptr 1 0 54 [(.ros 59)])] c49_1_5.dec (K49_1 n) st | false => none
set_option maxRecDepth 100000 in
theorem e49_1 (n : Nat) (v : (List (Int × Bool)) × List Int) : ev Try.prog E (oracle k49_1) Try.f49.ntmps (fun x => mem x [5]) (L49_1 n) (finF Try.prog E Try.f49.results.toList [[(.own 0 3), (.ptr 1 0 54 [(.ros 59)])]] w49_1.alts) 4000 [.code (Try.f49.body.getD .skip)] (argSt (v49_1.enc v)) = E49_1 (K49_1 n) v := by kernel_rfl
set_option maxRecDepth 100000 in
theorem b49_1_5 (n : Nat) (v : (Int × Int) × (List (Int × Bool)) × List Int) : evCut Try.prog E (oracle k49_1) false 49 Try.f49.ntmps (fun x => mem x [5]) (L49_1 n) (finF Try.prog E Try.f49.results.toList [[(.own 0 3), (.ptr 1 0 54 [(.ros 59)])]] w49_1.alts) 4000 (todoAt (Try.f49.body.getD .skip) 5) (cutSt s49_1_5 (c49_1_5.enc v)) = B49_1_5 (K49_1 n) v := by kernel_rfl
theorem ok49_1 : FnOk Try.prog E 49 v49_1.enc F49_1 w49_1.enc :=
  fn_known (fn := Try.f49) (c := (Try.f49.body.getD .skip)) Try.func49 (by kernel_rfl) rfl envOk (oracle_ok k49_1) mixed v49_1 F49_1 w49_1 [(.own 0 3), (.ptr 1 0 54 [(.ros 59)])] [[(.own 0 3), (.ptr 1 0 54 [(.ros 59)])]] (by kernel_rfl) [5] 4000 L49_1 (by kernel_rfl)
    (List.forall_mem_cons.2 ⟨⟨_, [(.own 0 3), (.ptr 1 0 54 [(.ros 59)])], s49_1_5, c49_1_5.dec, c49_1_5.enc, fun n => (K49_1 n), c49_1_5.ok, fun _ _ => rfl, fun _ => rfl, by kernel_rfl, fun n v _ h => (b49_1_5 n v).trans h⟩, fun _ h => (nomatch h)⟩) (fun v _ h => ⟨fuel49_1 v, (e49_1 _ v).trans h⟩) (fun _ => by kernel_rfl) (fun _ => by kernel_rfl) (fun _ _ => by kernel_rfl)
/- chicane/run.Best -/
abbrev A28_0 : Type := List (Int × Bool)
abbrev R28_0 : Type := Int × Bool
def v28_0 : Pk G (List (Int × Bool)) := (Pk.fst (pk (Sh.fst (Sh.cons (Sh.ros 59) Sh.nil)) Sh.hnil))
def w28_0 : Wk G (Int × Bool) := (Wk.one [.keep, .keep] (Pk.fst (pk (Sh.cons (Sh.int .i64) (Sh.fst (Sh.cons Sh.bool Sh.nil))) Sh.hnil)))
def c28_0_3 : Pk G (((List (Int × Bool)) × Int × Int) × List Int × List (Int × Bool)) := (pk (Sh.snd (Sh.cons (Sh.ptr 0 0) (Sh.snd (Sh.cons (Sh.osl 1) (Sh.cons (Sh.ros 59) (Sh.cons (Sh.int .i64) (Sh.fst (Sh.cons (Sh.int .i64) Sh.nil)))))))) (Sh.hrow 1 3 (Sh.fst (Sh.hfix 0 54 (Sh.fst (Sh.cons (Sh.ros 59) Sh.nil)) Sh.hnil))))
def B28_0_3 (K : ((((List (Int × Bool)) × Int × Int) × List Int × List (Int × Bool)) → Option (Int × Bool))) (v : ((List (Int × Bool)) × Int × Int) × List Int × List (Int × Bool)) : Option (Int × Bool) :=
  bif (decide (v.1.2.2 < v.1.2.1)) then
    (rdx v.1.1 v.1.2.2).bind fun (x119 : Int × Bool) =>
    bif x119.2 then
      (chk (decide (((v.2.1).length + (([v.1.2.2] : List Int)).length) * 8 ≤ 140737488355328))).bind fun _ =>
      let x120 : List Int := (v.2.1 ++ ([v.1.2.2] : List Int))
      let x121 : Int := (IntKind.wrap .i64 (v.1.2.2 + (1 : Int)))
      K ((v.1.1, (v.1.2.1, x121)), (x120, v.2.2))
    else
      let x122 : Int := (IntKind.wrap .i64 (v.1.2.2 + (1 : Int)))
      K ((v.1.1, (v.1.2.1, x122)), v.2)
  else
    bif (((v.2.1).length : Int) == (0 : Int)) then
      some ((0 : Int), false)
    else
      (F49_1 (v.2.2, v.2.1)).bind fun r123 =>
      some (r123.1, true)

def E28_0 (K : ((((List (Int × Bool)) × Int × Int) × List Int × List (Int × Bool)) → Option (Int × Bool))) (v : List (Int × Bool)) : Option (Int × Bool) :=
  K ((v, (((v).length : Int), (0 : Int))), (([] : List Int), v))

def K28_0 : Nat → ((((List (Int × Bool)) × Int × Int) × List Int × List (Int × Bool)) → Option (Int × Bool))
  | 0 => (fun _ => none)
  | n + 1 => (B28_0_3 (K28_0 n))
def fuel28_0 (v : List (Int × Bool)) : Nat := 1000
def F28_0 (v : List (Int × Bool)) : Option (Int × Bool) := E28_0 (K28_0 (fuel28_0 v)) v
noncomputable def k28_0 : List (Known Try.prog E) := [Known.of envOk [7, 150] [(.own 0 3), (.fn (.func 50) [] [(.ptr 1 0 54 [(.ros 59)])])] v49_1 F49_1 w49_1 ok49_1]
def s28_0_3 : List (Nat × Pat) := [(1, (.ptr 0 0 54 [(.ros 59)])), (4, (.own 1 3)), (7, (.ros 59)), (8, .keep), (9, .keep)]
noncomputable def L28_0 (n id : Nat) (st : St G) : Option (Int × Bool) := match Nat.beq id 3 with | true => cutK Try.prog s28_0_3 [] c28_0_3.dec (K28_0 n) st | false => none
set_option maxRecDepth 100000 in
theorem e28_0 (n : Nat) (v : List (Int × Bool)) : ev Try.prog E (oracle k28_0) Try.f28.ntmps (fun x => mem x [3]) (L28_0 n) (finF Try.prog E Try.f28.results.toList [[]] w28_0.alts) 4000 [.code (Try.f28.body.getD .skip)] (argSt (v28_0.enc v)) = E28_0 (K28_0 n) v := by kernel_rfl
set_option maxRecDepth 100000 in
theorem b28_0_3 (n : Nat) (v : ((List (Int × Bool)) × Int × Int) × List Int × List (Int × Bool)) : evCut Try.prog E (oracle k28_0) false 28 Try.f28.ntmps (fun x => mem x [3]) (L28_0 n) (finF Try.prog E Try.f28.results.toList [[]] w28_0.alts) 4000 (todoAt (Try.f28.body.getD .skip) 3) (cutSt s28_0_3 (c28_0_3.enc v)) = B28_0_3 (K28_0 n) v := by kernel_rfl
theorem ok28_0 : FnOk Try.prog E 28 v28_0.enc F28_0 w28_0.enc :=
  fn_known (fn := Try.f28) (c := (Try.f28.body.getD .skip)) Try.func28 (by kernel_rfl) rfl envOk (oracle_ok k28_0) mixed v28_0 F28_0 w28_0 [] [[]] (by kernel_rfl) [3] 4000 L28_0 (by kernel_rfl)
    (List.forall_mem_cons.2 ⟨⟨_, [], s28_0_3, c28_0_3.dec, c28_0_3.enc, fun n => (K28_0 n), c28_0_3.ok, fun _ _ => rfl, fun _ => rfl, by kernel_rfl, fun n v _ h => (b28_0_3 n v).trans h⟩, fun _ h => (nomatch h)⟩) (fun v _ h => ⟨fuel28_0 v, (e28_0 _ v).trans h⟩) (fun _ => by kernel_rfl) (fun _ => by kernel_rfl) (fun _ _ => by kernel_rfl)
/- chicane/board.Best -/
abbrev A14_0 : Type := Int × (List (Int × Bool)) × List Int
abbrev R14_0 : Type := Int × Bool
def v14_0 : Pk G (Int × (List (Int × Bool)) × List Int) := (Pk.fst (pk (Sh.fst (Sh.cons (Sh.agg (Sh.cons (Sh.int .i64) (Sh.cons (Sh.ros 59) (Sh.fst (Sh.cons (Sh.ros 51) Sh.nil))))) Sh.nil)) Sh.hnil))
def w14_0 : Wk G (Int × Bool) := (Wk.one [.keep, .keep] (Pk.fst (pk (Sh.cons (Sh.int .i64) (Sh.fst (Sh.cons Sh.bool Sh.nil))) Sh.hnil)))
def F14_0 (v : Int × (List (Int × Bool)) × List Int) : Option (Int × Bool) :=
  (F28_0 v.2.1).bind fun r128 =>
  bif r128.2 then
    (rdx v.2.1 r128.1).bind fun (x129 : Int × Bool) =>
    some (x129.1, true)
  else
    some ((0 : Int), false)

noncomputable def k14_0 : List (Known Try.prog E) := [Known.of envOk [7] [(.ros 59)] v28_0 F28_0 w28_0 ok28_0]
noncomputable def L14_0 (n id : Nat) (st : St G) : Option (Int × Bool) := none
set_option maxRecDepth 100000 in
theorem e14_0 (n : Nat) (v : Int × (List (Int × Bool)) × List Int) : ev Try.prog E (oracle k14_0) Try.f14.ntmps (fun x => mem x []) (L14_0 n) (finF Try.prog E Try.f14.results.toList [[]] w14_0.alts) 4000 [.code (Try.f14.body.getD .skip)] (argSt (v14_0.enc v)) = F14_0 v := by kernel_rfl
theorem ok14_0 : FnOk Try.prog E 14 v14_0.enc F14_0 w14_0.enc :=
  fn_known (fn := Try.f14) (c := (Try.f14.body.getD .skip)) Try.func14 (by kernel_rfl) rfl envOk (oracle_ok k14_0) mixed v14_0 F14_0 w14_0 [] [[]] (by kernel_rfl) [] 4000 L14_0 (by kernel_rfl)
    (fun _ h => nomatch h) (fun v _ h => ⟨0, (e14_0 _ v).trans h⟩) (fun _ => by kernel_rfl) (fun _ => by kernel_rfl) (fun _ _ => by kernel_rfl)
/- cmp.isNaN[int] -/
abbrev A53_0 : Type := Int
abbrev R53_0 : Type := Bool
def v53_0 : Pk G Int := (Pk.fst (pk (Sh.fst (Sh.cons (Sh.int .i64) Sh.nil)) Sh.hnil))
def w53_0 : Wk G Bool := (Wk.one [.keep] (Pk.fst (pk (Sh.fst (Sh.cons Sh.bool Sh.nil)) Sh.hnil)))
def F53_0 (v : Int) : Option Bool :=
  some (v != v)

noncomputable def k53_0 : List (Known Try.prog E) := []
noncomputable def L53_0 (n id : Nat) (st : St G) : Option Bool := none
set_option maxRecDepth 100000 in
theorem e53_0 (n : Nat) (v : Int) : ev Try.prog E (oracle k53_0) Try.f53.ntmps (fun x => mem x []) (L53_0 n) (finF Try.prog E Try.f53.results.toList [[]] w53_0.alts) 4000 [.code (Try.f53.body.getD .skip)] (argSt (v53_0.enc v)) = F53_0 v := by kernel_rfl
theorem ok53_0 : FnOk Try.prog E 53 v53_0.enc F53_0 w53_0.enc :=
  fn_known (fn := Try.f53) (c := (Try.f53.body.getD .skip)) Try.func53 (by kernel_rfl) rfl envOk (oracle_ok k53_0) mixed v53_0 F53_0 w53_0 [] [[]] (by kernel_rfl) [] 4000 L53_0 (by kernel_rfl)
    (fun _ h => nomatch h) (fun v _ h => ⟨0, (e53_0 _ v).trans h⟩) (fun _ => by kernel_rfl) (fun _ => by kernel_rfl) (fun _ _ => by kernel_rfl)
/- cmp.Compare[int] -/
abbrev A33_0 : Type := Int × Int
abbrev R33_0 : Type := Int
def v33_0 : Pk G (Int × Int) := (Pk.fst (pk (Sh.cons (Sh.int .i64) (Sh.fst (Sh.cons (Sh.int .i64) Sh.nil))) Sh.hnil))
def w33_0 : Wk G Int := (Wk.one [.keep] (Pk.fst (pk (Sh.fst (Sh.cons (Sh.int .i64) Sh.nil)) Sh.hnil)))
def F33_0 (v : Int × Int) : Option Int :=
  (F53_0 v.1).bind fun r155 =>
  (F53_0 v.2).bind fun r156 =>
  bif r155 then
    bif r156 then
      some (0 : Int)
    else
      some (-1 : Int)
  else
    bif r156 then
      some (1 : Int)
    else
      bif (decide (v.1 < v.2)) then
        some (-1 : Int)
      else
        bif (decide (v.1 > v.2)) then
          some (1 : Int)
        else
          some (0 : Int)

noncomputable def k33_0 : List (Known Try.prog E) := [Known.of envOk [1] [.keep] v53_0 F53_0 w53_0 ok53_0]
noncomputable def L33_0 (n id : Nat) (st : St G) : Option Int := none
set_option maxRecDepth 100000 in
theorem e33_0 (n : Nat) (v : Int × Int) : ev Try.prog E (oracle k33_0) Try.f33.ntmps (fun x => mem x []) (L33_0 n) (finF Try.prog E Try.f33.results.toList [[]] w33_0.alts) 4000 [.code (Try.f33.body.getD .skip)] (argSt (v33_0.enc v)) = F33_0 v := by kernel_rfl
theorem ok33_0 : FnOk Try.prog E 33 v33_0.enc F33_0 w33_0.enc :=
  fn_known (fn := Try.f33) (c := (Try.f33.body.getD .skip)) Try.func33 (by kernel_rfl) rfl envOk (oracle_ok k33_0) mixed v33_0 F33_0 w33_0 [] [[]] (by kernel_rfl) [] 4000 L33_0 (by kernel_rfl)
    (fun _ h => nomatch h) (fun v _ h => ⟨0, (e33_0 _ v).trans h⟩) (fun _ => by kernel_rfl) (fun _ => by kernel_rfl) (fun _ _ => by kernel_rfl)
/- cmp.Or[int] -/
abbrev A31_0 : Type := List Int
abbrev R31_0 : Type := Int
def v31_0 : Pk G (List Int) := (Pk.fst (pk (Sh.fst (Sh.cons (Sh.ros 3) Sh.nil)) Sh.hnil))
def w31_0 : Wk G Int := (Wk.one [.keep] (Pk.fst (pk (Sh.fst (Sh.cons (Sh.int .i64) Sh.nil)) Sh.hnil)))
def c31_0_3 : Pk G (Int × List Int × Int × Int) := (Pk.fst (pk (Sh.cons (Sh.int .i64) (Sh.cons (Sh.ros 3) (Sh.cons (Sh.int .i64) (Sh.fst (Sh.cons (Sh.int .i64) Sh.nil))))) Sh.hnil))
def B31_0_3 (K : ((Int × List Int × Int × Int) → Option Int)) (v : Int × List Int × Int × Int) : Option Int :=
  bif (decide (v.2.2.2 < v.2.2.1)) then
    (rdx v.2.1 v.2.2.2).bind fun (x164 : Int) =>
    bif (x164 != v.1) then
      some (x164)
    else
      let x165 : Int := (IntKind.wrap .i64 (v.2.2.2 + (1 : Int)))
      K (v.1, (v.2.1, (v.2.2.1, x165)))
  else
    some (v.1)

def E31_0 (K : ((Int × List Int × Int × Int) → Option Int)) (v : List Int) : Option Int :=
  K ((0 : Int), (v, (((v).length : Int), (0 : Int))))

def K31_0 : Nat → ((Int × List Int × Int × Int) → Option Int)
  | 0 => (fun _ => none)
  | n + 1 => (B31_0_3 (K31_0 n))
def fuel31_0 (v : List Int) : Nat := 1000
def F31_0 (v : List Int) : Option Int := E31_0 (K31_0 (fuel31_0 v)) v
noncomputable def k31_0 : List (Known Try.prog E) := []
def s31_0_3 : List (Nat × Pat) := [(3, .keep), (6, (.ros 3)), (7, .keep), (8, .keep)]
noncomputable def L31_0 (n id : Nat) (st : St G) : Option Int := match Nat.beq id 3 with | true => cutK Try.prog s31_0_3 [] c31_0_3.dec (K31_0 n) st | false => none
set_option maxRecDepth 100000 in
theorem e31_0 (n : Nat) (v : List Int) : ev Try.prog E (oracle k31_0) Try.f31.ntmps (fun x => mem x [3]) (L31_0 n) (finF Try.prog E Try.f31.results.toList [[]] w31_0.alts) 4000 [.code (Try.f31.body.getD .skip)] (argSt (v31_0.enc v)) = E31_0 (K31_0 n) v := by kernel_rfl
set_option maxRecDepth 100000 in
theorem b31_0_3 (n : Nat) (v : Int × List Int × Int × Int) : evCut Try.prog E (oracle k31_0) false 31 Try.f31.ntmps (fun x => mem x [3]) (L31_0 n) (finF Try.prog E Try.f31.results.toList [[]] w31_0.alts) 4000 (todoAt (Try.f31.body.getD .skip) 3) (cutSt s31_0_3 (c31_0_3.enc v)) = B31_0_3 (K31_0 n) v := by kernel_rfl
theorem ok31_0 : FnOk Try.prog E 31 v31_0.enc F31_0 w31_0.enc :=
  fn_known (fn := Try.f31) (c := (Try.f31.body.getD .skip)) Try.func31 (by kernel_rfl) rfl envOk (oracle_ok k31_0) mixed v31_0 F31_0 w31_0 [] [[]] (by kernel_rfl) [3] 4000 L31_0 (by kernel_rfl)
    (List.forall_mem_cons.2 ⟨⟨_, [], s31_0_3, c31_0_3.dec, c31_0_3.enc, fun n => (K31_0 n), c31_0_3.ok, fun _ _ => rfl, fun _ => rfl, by kernel_rfl, fun n v _ h => (b31_0_3 n v).trans h⟩, fun _ h => (nomatch h)⟩) (fun v _ h => ⟨fuel31_0 v, (e31_0 _ v).trans h⟩) (fun _ => by kernel_rfl) (fun _ => by kernel_rfl) (fun _ _ => by kernel_rfl)
/- chicane/board.Rank$1 -/
abbrev A30_0 : Type := (Int × Int) × (List (Int × (List (Int × Bool)) × List Int)) × List Int
abbrev R30_0 : Type := Int × (List (Int × (List (Int × Bool)) × List Int)) × List Int
def v30_0 : Pk G ((Int × Int) × (List (Int × (List (Int × Bool)) × List Int)) × List Int) := (pk (Sh.cons (Sh.int .i64) (Sh.fst (Sh.cons (Sh.int .i64) (Sh.snd (Sh.cons (Sh.ptr 0 0) (Sh.snd (Sh.cons (Sh.ptr 2 0) Sh.nil))))))) (Sh.hfix 2 47 (Sh.fst (Sh.cons (Sh.ros 57) Sh.nil)) (Sh.snd (Sh.hfix 0 55 (Sh.snd (Sh.cons (Sh.osl 1) Sh.nil)) (Sh.fst (Sh.hrow 1 51 Sh.hnil))))))
def w30_0 : Wk G (Int × (List (Int × (List (Int × Bool)) × List Int)) × List Int) := (Wk.one [.keep] (pk (Sh.fst (Sh.cons (Sh.int .i64) Sh.nil)) (Sh.hfix 2 47 (Sh.fst (Sh.cons (Sh.ros 57) Sh.nil)) (Sh.snd (Sh.hfix 0 55 (Sh.snd (Sh.cons (Sh.osl 1) Sh.nil)) (Sh.fst (Sh.hrow 1 51 Sh.hnil)))))))
def F30_0 (v : (Int × Int) × (List (Int × (List (Int × Bool)) × List Int)) × List Int) : Option (Int × (List (Int × (List (Int × Bool)) × List Int)) × List Int) :=
  (idx v.1.1 (v.2.2).length).bind fun (x176 : Nat) =>
  ((v.2.2)[x176]?).bind fun (x177 : Int) =>
  (idx v.1.2 (v.2.2).length).bind fun (x178 : Nat) =>
  ((v.2.2)[x178]?).bind fun (x179 : Int) =>
  (F32_0 (x177, x179)).bind fun r180 =>
  (rdx v.2.1 v.1.1).bind fun (x181 : Int × (List (Int × Bool)) × List Int) =>
  (rdx v.2.1 v.1.2).bind fun (x182 : Int × (List (Int × Bool)) × List Int) =>
  (F33_0 (x181.1, x182.1)).bind fun r183 =>
  (F31_0 ([r180, r183] : List Int)).bind fun r184 =>
  some (r184, v.2)

noncomputable def k30_0 : List (Known Try.prog E) := [Known.of envOk [1, 1] [.keep, .keep] v32_0 F32_0 w32_0 ok32_0, Known.of envOk [1, 1] [.keep, .keep] v33_0 F33_0 w33_0 ok33_0, Known.of envOk [7] [(.ros 3)] v31_0 F31_0 w31_0 ok31_0]
noncomputable def L30_0 (n id : Nat) (st : St G) : Option (Int × (List (Int × (List (Int × Bool)) × List Int)) × List Int) := none
set_option maxRecDepth 100000 in
theorem e30_0 (n : Nat) (v : (Int × Int) × (List (Int × (List (Int × Bool)) × List Int)) × List Int) : ev Try.prog E (oracle k30_0) Try.f30.ntmps (fun x => mem x []) (L30_0 n) (finF Try.prog E Try.f30.results.toList [[(.own 1 51), (.ptr 0 0 55 [(.own 1 51)]), (.ptr 2 0 47 [(.ros 57)])]] w30_0.alts) 4000 [.code (Try.f30.body.getD .skip)] (argSt (v30_0.enc v)) = F30_0 v := by kernel_rfl
theorem ok30_0 : FnOk Try.prog E 30 v30_0.enc F30_0 w30_0.enc :=
  fn_known (fn := Try.f30) (c := (Try.f30.body.getD .skip)) Try.func30 (by kernel_rfl) rfl envOk (oracle_ok k30_0) mixed v30_0 F30_0 w30_0 [(.own 1 51), (.ptr 0 0 55 [(.own 1 51)]), (.ptr 2 0 47 [(.ros 57)])] [[(.own 1 51), (.ptr 0 0 55 [(.own 1 51)]), (.ptr 2 0 47 [(.ros 57)])]] (by kernel_rfl) [] 4000 L30_0 (by kernel_rfl)
    (fun _ h => nomatch h) (fun v _ h => ⟨0, (e30_0 _ v).trans h⟩) (fun _ => by kernel_rfl) (fun _ => by kernel_rfl) (fun _ _ => by kernel_rfl)
/- slices.insertionSortCmpFunc[int] -/
abbrev A59_0 : Type := (Int × Int) × (List (Int × (List (Int × Bool)) × List Int)) × List Int × List Int
abbrev R59_0 : Type := (List (Int × (List (Int × Bool)) × List Int)) × List Int × List Int
def v59_0 : Pk G ((Int × Int) × (List (Int × (List (Int × Bool)) × List Int)) × List Int × List Int) := (pk (Sh.snd (Sh.cons (Sh.osl 0) (Sh.cons (Sh.int .i64) (Sh.fst (Sh.cons (Sh.int .i64) (Sh.snd (Sh.cons (Sh.snd (Sh.fn (.func 30) Sh.nil (Sh.snd (Sh.cons (Sh.ptr 1 0) (Sh.snd (Sh.cons (Sh.ptr 3 0) Sh.nil)))))) Sh.nil))))))) (Sh.hfix 3 47 (Sh.fst (Sh.cons (Sh.ros 57) Sh.nil)) (Sh.snd (Sh.hfix 1 55 (Sh.snd (Sh.cons (Sh.osl 2) Sh.nil)) (Sh.hrow 2 51 (Sh.fst (Sh.hrow 0 3 Sh.hnil)))))))
def w59_0 : Wk G ((List (Int × (List (Int × Bool)) × List Int)) × List Int × List Int) := (Wk.one [] (Pk.snd (pk Sh.nil (Sh.hfix 3 47 (Sh.fst (Sh.cons (Sh.ros 57) Sh.nil)) (Sh.snd (Sh.hfix 1 55 (Sh.snd (Sh.cons (Sh.osl 2) Sh.nil)) (Sh.hrow 0 3 (Sh.fst (Sh.hrow 2 51 Sh.hnil)))))))))
def c59_0_1 : Pk G ((Int × Int × Int) × (List (Int × (List (Int × Bool)) × List Int)) × List Int × List Int) := (pk (Sh.snd (Sh.cons (Sh.osl 0) (Sh.cons (Sh.int .i64) (Sh.cons (Sh.int .i64) (Sh.snd (Sh.cons (Sh.snd (Sh.fn (.func 30) Sh.nil (Sh.snd (Sh.cons (Sh.ptr 1 0) (Sh.snd (Sh.cons (Sh.ptr 3 0) Sh.nil)))))) (Sh.fst (Sh.cons (Sh.int .i64) Sh.nil)))))))) (Sh.hfix 3 47 (Sh.fst (Sh.cons (Sh.ros 57) Sh.nil)) (Sh.snd (Sh.hfix 1 55 (Sh.snd (Sh.cons (Sh.osl 2) Sh.nil)) (Sh.hrow 0 3 (Sh.fst (Sh.hrow 2 51 Sh.hnil)))))))
def c59_0_4 : Pk G ((Int × Int × Int × Int) × (List (Int × (List (Int × Bool)) × List Int)) × List Int × List Int) := (pk (Sh.snd (Sh.cons (Sh.osl 0) (Sh.cons (Sh.int .i64) (Sh.cons (Sh.int .i64) (Sh.snd (Sh.cons (Sh.snd (Sh.fn (.func 30) Sh.nil (Sh.snd (Sh.cons (Sh.ptr 1 0) (Sh.snd (Sh.cons (Sh.ptr 3 0) Sh.nil)))))) (Sh.cons (Sh.int .i64) (Sh.fst (Sh.cons (Sh.int .i64) Sh.nil))))))))) (Sh.hfix 3 47 (Sh.fst (Sh.cons (Sh.ros 57) Sh.nil)) (Sh.snd (Sh.hfix 1 55 (Sh.snd (Sh.cons (Sh.osl 2) Sh.nil)) (Sh.hrow 0 3 (Sh.fst (Sh.hrow 2 51 Sh.hnil)))))))
def B59_0_1 (K : (((Int × Int × Int) × (List (Int × (List (Int × Bool)) × List Int)) × List Int × List Int) → Option ((List (Int × (List (Int × Bool)) × List Int)) × List Int × List Int)) × (((Int × Int × Int × Int) × (List (Int × (List (Int × Bool)) × List Int)) × List Int × List Int) → Option ((List (Int × (List (Int × Bool)) × List Int)) × List Int × List Int))) (v : (Int × Int × Int) × (List (Int × (List (Int × Bool)) × List Int)) × List Int × List Int) : Option ((List (Int × (List (Int × Bool)) × List Int)) × List Int × List Int) :=
  bif (decide (v.1.2.2 < v.1.2.1)) then
    K.2 ((v.1.1, (v.1.2.1, (v.1.2.2, v.1.2.2))), v.2)
  else
    some (v.2)

def B59_0_4 (K : (((Int × Int × Int) × (List (Int × (List (Int × Bool)) × List Int)) × List Int × List Int) → Option ((List (Int × (List (Int × Bool)) × List Int)) × List Int × List Int)) × (((Int × Int × Int × Int) × (List (Int × (List (Int × Bool)) × List Int)) × List Int × List Int) → Option ((List (Int × (List (Int × Bool)) × List Int)) × List Int × List Int))) (v : (Int × Int × Int × Int) × (List (Int × (List (Int × Bool)) × List Int)) × List Int × List Int) : Option ((List (Int × (List (Int × Bool)) × List Int)) × List Int × List Int) :=
  bif (decide (v.1.2.2.2 > v.1.1)) then
    (idx v.1.2.2.2 (v.2.2.1).length).bind fun (x267 : Nat) =>
    ((v.2.2.1)[x267]?).bind fun (x268 : Int) =>
    let x269 : Int := (IntKind.wrap .i64 (v.1.2.2.2 - (1 : Int)))
    (idx x269 (v.2.2.1).length).bind fun (x270 : Nat) =>
    ((v.2.2.1)[x270]?).bind fun (x271 : Int) =>
    (F30_0 ((x268, x271), (v.2.1, v.2.2.2))).bind fun r272 =>
    bif (decide (r272.1 < (0 : Int))) then
      let x273 : Int := (IntKind.wrap .i64 (v.1.2.2.2 - (1 : Int)))
      let x274 : Int := (IntKind.wrap .i64 (v.1.2.2.2 - (1 : Int)))
      (idx x274 (v.2.2.1).length).bind fun (x275 : Nat) =>
      ((v.2.2.1)[x275]?).bind fun (x276 : Int) =>
      (idx v.1.2.2.2 (v.2.2.1).length).bind fun (x277 : Nat) =>
      ((v.2.2.1)[x277]?).bind fun (x278 : Int) =>
      (idx v.1.2.2.2 (v.2.2.1).length).bind fun (x279 : Nat) =>
      ((v.2.2.1)[x279]?).bind fun _ =>
      let x281 : List Int := (v.2.2.1).set x279 (x276)
      (idx x273 (x281).length).bind fun (x282 : Nat) =>
      ((x281)[x282]?).bind fun _ =>
      let x284 : List Int := (x281).set x282 (x278)
      let x285 : Int := (IntKind.wrap .i64 (v.1.2.2.2 - (1 : Int)))
      K.2 ((v.1.1, (v.1.2.1, (v.1.2.2.1, x285))), (r272.2.1, (x284, r272.2.2)))
    else
      let x286 : Int := (IntKind.wrap .i64 (v.1.2.2.1 + (1 : Int)))
      K.1 ((v.1.1, (v.1.2.1, x286)), (r272.2.1, (v.2.2.1, r272.2.2)))
  else
    let x287 : Int := (IntKind.wrap .i64 (v.1.2.2.1 + (1 : Int)))
    K.1 ((v.1.1, (v.1.2.1, x287)), v.2)

def E59_0 (K : (((Int × Int × Int) × (List (Int × (List (Int × Bool)) × List Int)) × List Int × List Int) → Option ((List (Int × (List (Int × Bool)) × List Int)) × List Int × List Int)) × (((Int × Int × Int × Int) × (List (Int × (List (Int × Bool)) × List Int)) × List Int × List Int) → Option ((List (Int × (List (Int × Bool)) × List Int)) × List Int × List Int))) (v : (Int × Int) × (List (Int × (List (Int × Bool)) × List Int)) × List Int × List Int) : Option ((List (Int × (List (Int × Bool)) × List Int)) × List Int × List Int) :=
  let x266 : Int := (IntKind.wrap .i64 (v.1.1 + (1 : Int)))
  K.1 ((v.1.1, (v.1.2, x266)), (v.2.1, (v.2.2.2, v.2.2.1)))

def K59_0 : Nat → (((Int × Int × Int) × (List (Int × (List (Int × Bool)) × List Int)) × List Int × List Int) → Option ((List (Int × (List (Int × Bool)) × List Int)) × List Int × List Int)) × (((Int × Int × Int × Int) × (List (Int × (List (Int × Bool)) × List Int)) × List Int × List Int) → Option ((List (Int × (List (Int × Bool)) × List Int)) × List Int × List Int))
  | 0 => (fun _ => none, fun _ => none)
  | n + 1 => (B59_0_1 (K59_0 n), B59_0_4 (K59_0 n))
def fuel59_0 (v : (Int × Int) × (List (Int × (List (Int × Bool)) × List Int)) × List Int × List Int) : Nat := 1000
def F59_0 (v : (Int × Int) × (List (Int × (List (Int × Bool)) × List Int)) × List Int × List Int) : Option ((List (Int × (List (Int × Bool)) × List Int)) × List Int × List Int) := E59_0 (K59_0 (fuel59_0 v)) v
noncomputable def k59_0 : List (Known Try.prog E) := [Known.of envOk [1, 1, 5, 5] [.keep, .keep, (.ptr 0 0 55 [(.own 1 51)]), (.ptr 2 0 47 [(.ros 57)])] v30_0 F30_0 w30_0 ok30_0]
def s59_0_4 : List (Nat × Pat) := [(0, (.own 0 3)), (1, .keep), (2, .keep), (3, (.fn (.func 30) [] [(.ptr 1 0 55 []), (.ptr 3 0 47 [])])), (8, .keep), (9, .keep)]
def s59_0_1 : List (Nat × Pat) := [(0, (.own 0 3)), (1, .keep), (2, .keep), (3, (.fn (.func 30) [] [(.ptr 1 0 55 []), (.ptr 3 0 47 [])])), (8, .keep)]
noncomputable def L59_0 (n id : Nat) (st : St G) : Option ((List (Int × (List (Int × Bool)) × List Int)) × List Int × List Int) := match Nat.beq id 1 with | true => cutK Try.prog s59_0_1 [(.own 2 51), (.own 0 3), (.ptr 1 0 55 [(.own 2 51)]), (.ptr 3 0 47 [(.ros 57)])] c59_0_1.dec (K59_0 n).1 st | false => match Nat.beq id 4 with | true => cutK Try.prog s59_0_4 [(.own 2 51), (.own 0 3), (.ptr 1 0 55 [(.own 2 51)]), (.ptr 3 0 47 [(.ros 57)])] c59_0_4.dec (K59_0 n).2 st | false => none
set_option maxRecDepth 100000 in
theorem e59_0 (n : Nat) (v : (Int × Int) × (List (Int × (List (Int × Bool)) × List Int)) × List Int × List Int) : ev Try.prog E (oracle k59_0) Try.f59.ntmps (fun x => mem x [1, 4]) (L59_0 n) (finF Try.prog E Try.f59.results.toList [[(.own 2 51), (.own 0 3), (.ptr 1 0 55 [(.own 2 51)]), (.ptr 3 0 47 [(.ros 57)])]] w59_0.alts) 4000 [.code (Try.f59.body.getD .skip)] (argSt (v59_0.enc v)) = E59_0 (K59_0 n) v := by kernel_rfl
set_option maxRecDepth 100000 in
theorem b59_0_1 (n : Nat) (v : (Int × Int × Int) × (List (Int × (List (Int × Bool)) × List Int)) × List Int × List Int) : evCut Try.prog E (oracle k59_0) false 59 Try.f59.ntmps (fun x => mem x [1, 4]) (L59_0 n) (finF Try.prog E Try.f59.results.toList [[(.own 2 51), (.own 0 3), (.ptr 1 0 55 [(.own 2 51)]), (.ptr 3 0 47 [(.ros 57)])]] w59_0.alts) 4000 (todoAt (Try.f59.body.getD .skip) 1) (cutSt s59_0_1 (c59_0_1.enc v)) = B59_0_1 (K59_0 n) v := by kernel_rfl
set_option maxRecDepth 100000 in
theorem b59_0_4 (n : Nat) (v : (Int × Int × Int × Int) × (List (Int × (List (Int × Bool)) × List Int)) × List Int × List Int) : evCut Try.prog E (oracle k59_0) false 59 Try.f59.ntmps (fun x => mem x [1, 4]) (L59_0 n) (finF Try.prog E Try.f59.results.toList [[(.own 2 51), (.own 0 3), (.ptr 1 0 55 [(.own 2 51)]), (.ptr 3 0 47 [(.ros 57)])]] w59_0.alts) 4000 (todoAt (Try.f59.body.getD .skip) 4) (cutSt s59_0_4 (c59_0_4.enc v)) = B59_0_4 (K59_0 n) v := by kernel_rfl
theorem ok59_0 : FnOk Try.prog E 59 v59_0.enc F59_0 w59_0.enc :=
  fn_known (fn := Try.f59) (c := (Try.f59.body.getD .skip)) Try.func59 (by kernel_rfl) rfl envOk (oracle_ok k59_0) mixed v59_0 F59_0 w59_0 [(.own 2 51), (.own 0 3), (.ptr 1 0 55 [(.own 2 51)]), (.ptr 3 0 47 [(.ros 57)])] [[(.own 2 51), (.own 0 3), (.ptr 1 0 55 [(.own 2 51)]), (.ptr 3 0 47 [(.ros 57)])]] (by kernel_rfl) [1, 4] 4000 L59_0 (by kernel_rfl)
    (List.forall_mem_cons.2 ⟨⟨_, [(.own 2 51), (.own 0 3), (.ptr 1 0 55 [(.own 2 51)]), (.ptr 3 0 47 [(.ros 57)])], s59_0_1, c59_0_1.dec, c59_0_1.enc, fun n => (K59_0 n).1, c59_0_1.ok, fun _ _ => rfl, fun _ => rfl, by kernel_rfl, fun n v _ h => (b59_0_1 n v).trans h⟩, List.forall_mem_cons.2 ⟨⟨_, [(.own 2 51), (.own 0 3), (.ptr 1 0 55 [(.own 2 51)]), (.ptr 3 0 47 [(.ros 57)])], s59_0_4, c59_0_4.dec, c59_0_4.enc, fun n => (K59_0 n).2, c59_0_4.ok, fun _ _ => rfl, fun _ => rfl, by kernel_rfl, fun n v _ h => (b59_0_4 n v).trans h⟩, fun _ h => (nomatch h)⟩⟩) (fun v _ h => ⟨fuel59_0 v, (e59_0 _ v).trans h⟩) (fun _ => by kernel_rfl) (fun _ => by kernel_rfl) (fun _ _ => by kernel_rfl)
/- slices.swapRangeCmpFunc[int] -/
abbrev A68_0 : Type := (Int × Int × Int) × (List (Int × (List (Int × Bool)) × List Int)) × List Int × List Int
abbrev R68_0 : Type := (List (Int × (List (Int × Bool)) × List Int)) × List Int × List Int
def v68_0 : Pk G ((Int × Int × Int) × (List (Int × (List (Int × Bool)) × List Int)) × List Int × List Int) := (pk (Sh.snd (Sh.cons (Sh.osl 0) (Sh.cons (Sh.int .i64) (Sh.cons (Sh.int .i64) (Sh.fst (Sh.cons (Sh.int .i64) (Sh.snd (Sh.cons (Sh.snd (Sh.fn (.func 30) Sh.nil (Sh.snd (Sh.cons (Sh.ptr 1 0) (Sh.snd (Sh.cons (Sh.ptr 3 0) Sh.nil)))))) Sh.nil)))))))) (Sh.hfix 3 47 (Sh.fst (Sh.cons (Sh.ros 57) Sh.nil)) (Sh.snd (Sh.hfix 1 55 (Sh.snd (Sh.cons (Sh.osl 2) Sh.nil)) (Sh.hrow 2 51 (Sh.fst (Sh.hrow 0 3 Sh.hnil)))))))
def w68_0 : Wk G ((List (Int × (List (Int × Bool)) × List Int)) × List Int × List Int) := (Wk.one [] (Pk.snd (pk Sh.nil (Sh.hfix 3 47 (Sh.fst (Sh.cons (Sh.ros 57) Sh.nil)) (Sh.snd (Sh.hfix 1 55 (Sh.snd (Sh.cons (Sh.osl 2) Sh.nil)) (Sh.hrow 0 3 (Sh.fst (Sh.hrow 2 51 Sh.hnil)))))))))
def c68_0_1 : Pk G ((Int × Int × Int × Int) × (List (Int × (List (Int × Bool)) × List Int)) × List Int × List Int) := (pk (Sh.snd (Sh.cons (Sh.osl 0) (Sh.cons (Sh.int .i64) (Sh.cons (Sh.int .i64) (Sh.cons (Sh.int .i64) (Sh.fst (Sh.cons (Sh.int .i64) Sh.nil))))))) (Sh.hfix 3 47 (Sh.fst (Sh.cons (Sh.ros 57) Sh.nil)) (Sh.snd (Sh.hfix 1 55 (Sh.snd (Sh.cons (Sh.osl 2) Sh.nil)) (Sh.hrow 0 3 (Sh.fst (Sh.hrow 2 51 Sh.hnil)))))))
def B68_0_1 (K : (((Int × Int × Int × Int) × (List (Int × (List (Int × Bool)) × List Int)) × List Int × List Int) → Option ((List (Int × (List (Int × Bool)) × List Int)) × List Int × List Int))) (v : (Int × Int × Int × Int) × (List (Int × (List (Int × Bool)) × List Int)) × List Int × List Int) : Option ((List (Int × (List (Int × Bool)) × List Int)) × List Int × List Int) :=
  bif (decide (v.1.2.2.2 < v.1.2.2.1)) then
    let x379 : Int := (IntKind.wrap .i64 (v.1.1 + v.1.2.2.2))
    let x380 : Int := (IntKind.wrap .i64 (v.1.2.1 + v.1.2.2.2))
    let x381 : Int := (IntKind.wrap .i64 (v.1.2.1 + v.1.2.2.2))
    (idx x381 (v.2.2.1).length).bind fun (x382 : Nat) =>
    ((v.2.2.1)[x382]?).bind fun (x383 : Int) =>
    let x384 : Int := (IntKind.wrap .i64 (v.1.1 + v.1.2.2.2))
    (idx x384 (v.2.2.1).length).bind fun (x385 : Nat) =>
    ((v.2.2.1)[x385]?).bind fun (x386 : Int) =>
    (idx x379 (v.2.2.1).length).bind fun (x387 : Nat) =>
    ((v.2.2.1)[x387]?).bind fun _ =>
    let x389 : List Int := (v.2.2.1).set x387 (x383)
    (idx x380 (x389).length).bind fun (x390 : Nat) =>
    ((x389)[x390]?).bind fun _ =>
    let x392 : List Int := (x389).set x390 (x386)
    let x393 : Int := (IntKind.wrap .i64 (v.1.2.2.2 + (1 : Int)))
    K ((v.1.1, (v.1.2.1, (v.1.2.2.1, x393))), (v.2.1, (x392, v.2.2.2)))
  else
    some (v.2)

def E68_0 (K : (((Int × Int × Int × Int) × (List (Int × (List (Int × Bool)) × List Int)) × List Int × List Int) → Option ((List (Int × (List (Int × Bool)) × List Int)) × List Int × List Int))) (v : (Int × Int × Int) × (List (Int × (List (Int × Bool)) × List Int)) × List Int × List Int) : Option ((List (Int × (List (Int × Bool)) × List Int)) × List Int × List Int) :=
  K ((v.1.1, (v.1.2.1, (v.1.2.2, (0 : Int)))), (v.2.1, (v.2.2.2, v.2.2.1)))

def K68_0 : Nat → (((Int × Int × Int × Int) × (List (Int × (List (Int × Bool)) × List Int)) × List Int × List Int) → Option ((List (Int × (List (Int × Bool)) × List Int)) × List Int × List Int))
  | 0 => (fun _ => none)
  | n + 1 => (B68_0_1 (K68_0 n))
def fuel68_0 (v : (Int × Int × Int) × (List (Int × (List (Int × Bool)) × List Int)) × List Int × List Int) : Nat := 1000
def F68_0 (v : (Int × Int × Int) × (List (Int × (List (Int × Bool)) × List Int)) × List Int × List Int) : Option ((List (Int × (List (Int × Bool)) × List Int)) × List Int × List Int) := E68_0 (K68_0 (fuel68_0 v)) v
noncomputable def k68_0 : List (Known Try.prog E) := []
def s68_0_1 : List (Nat × Pat) := [(0, (.own 0 3)), (1, .keep), (2, .keep), (3, .keep), (10, .keep)]
noncomputable def L68_0 (n id : Nat) (st : St G) : Option ((List (Int × (List (Int × Bool)) × List Int)) × List Int × List Int) := match Nat.beq id 1 with | true => cutK Try.prog s68_0_1 [(.own 2 51), (.own 0 3), (.ptr 1 0 55 [(.own 2 51)]), (.ptr 3 0 47 [(.ros 57)])] c68_0_1.dec (K68_0 n) st | false => none
set_option maxRecDepth 100000 in
theorem e68_0 (n : Nat) (v : (Int × Int × Int) × (List (Int × (List (Int × Bool)) × List Int)) × List Int × List Int) : ev Try.prog E (oracle k68_0) Try.f68.ntmps (fun x => mem x [1]) (L68_0 n) (finF Try.prog E Try.f68.results.toList [[(.own 2 51), (.own 0 3), (.ptr 1 0 55 [(.own 2 51)]), (.ptr 3 0 47 [(.ros 57)])]] w68_0.alts) 4000 [.code (Try.f68.body.getD .skip)] (argSt (v68_0.enc v)) = E68_0 (K68_0 n) v := by kernel_rfl
set_option maxRecDepth 100000 in
theorem b68_0_1 (n : Nat) (v : (Int × Int × Int × Int) × (List (Int × (List (Int × Bool)) × List Int)) × List Int × List Int) : evCut Try.prog E (oracle k68_0) false 68 Try.f68.ntmps (fun x => mem x [1]) (L68_0 n) (finF Try.prog E Try.f68.results.toList [[(.own 2 51), (.own 0 3), (.ptr 1 0 55 [(.own 2 51)]), (.ptr 3 0 47 [(.ros 57)])]] w68_0.alts) 4000 (todoAt (Try.f68.body.getD .skip) 1) (cutSt s68_0_1 (c68_0_1.enc v)) = B68_0_1 (K68_0 n) v := by kernel_rfl
theorem ok68_0 : FnOk Try.prog E 68 v68_0.enc F68_0 w68_0.enc :=
  fn_known (fn := Try.f68) (c := (Try.f68.body.getD .skip)) Try.func68 (by kernel_rfl) rfl envOk (oracle_ok k68_0) mixed v68_0 F68_0 w68_0 [(.own 2 51), (.own 0 3), (.ptr 1 0 55 [(.own 2 51)]), (.ptr 3 0 47 [(.ros 57)])] [[(.own 2 51), (.own 0 3), (.ptr 1 0 55 [(.own 2 51)]), (.ptr 3 0 47 [(.ros 57)])]] (by kernel_rfl) [1] 4000 L68_0 (by kernel_rfl)
    (List.forall_mem_cons.2 ⟨⟨_, [(.own 2 51), (.own 0 3), (.ptr 1 0 55 [(.own 2 51)]), (.ptr 3 0 47 [(.ros 57)])], s68_0_1, c68_0_1.dec, c68_0_1.enc, fun n => (K68_0 n), c68_0_1.ok, fun _ _ => rfl, fun _ => rfl, by kernel_rfl, fun n v _ h => (b68_0_1 n v).trans h⟩, fun _ h => (nomatch h)⟩) (fun v _ h => ⟨fuel68_0 v, (e68_0 _ v).trans h⟩) (fun _ => by kernel_rfl) (fun _ => by kernel_rfl) (fun _ _ => by kernel_rfl)
/- slices.rotateCmpFunc[int] -/
abbrev A64_0 : Type := (Int × Int × Int) × (List (Int × (List (Int × Bool)) × List Int)) × List Int × List Int
abbrev R64_0 : Type := (List (Int × (List (Int × Bool)) × List Int)) × List Int × List Int
def v64_0 : Pk G ((Int × Int × Int) × (List (Int × (List (Int × Bool)) × List Int)) × List Int × List Int) := (pk (Sh.snd (Sh.cons (Sh.osl 0) (Sh.cons (Sh.int .i64) (Sh.cons (Sh.int .i64) (Sh.fst (Sh.cons (Sh.int .i64) (Sh.snd (Sh.cons (Sh.snd (Sh.fn (.func 30) Sh.nil (Sh.snd (Sh.cons (Sh.ptr 1 0) (Sh.snd (Sh.cons (Sh.ptr 3 0) Sh.nil)))))) Sh.nil)))))))) (Sh.hfix 3 47 (Sh.fst (Sh.cons (Sh.ros 57) Sh.nil)) (Sh.snd (Sh.hfix 1 55 (Sh.snd (Sh.cons (Sh.osl 2) Sh.nil)) (Sh.hrow 2 51 (Sh.fst (Sh.hrow 0 3 Sh.hnil)))))))
def w64_0 : Wk G ((List (Int × (List (Int × Bool)) × List Int)) × List Int × List Int) := (Wk.one [] (Pk.snd (pk Sh.nil (Sh.hfix 3 47 (Sh.fst (Sh.cons (Sh.ros 57) Sh.nil)) (Sh.snd (Sh.hfix 1 55 (Sh.snd (Sh.cons (Sh.osl 2) Sh.nil)) (Sh.hrow 0 3 (Sh.fst (Sh.hrow 2 51 Sh.hnil)))))))))
def c64_0_2 : Pk G ((Int × Int × Int) × (List (Int × (List (Int × Bool)) × List Int)) × List Int × List Int) := (pk (Sh.snd (Sh.cons (Sh.osl 0) (Sh.cons (Sh.int .i64) (Sh.snd (Sh.cons (Sh.snd (Sh.fn (.func 30) Sh.nil (Sh.snd (Sh.cons (Sh.ptr 1 0) (Sh.snd (Sh.cons (Sh.ptr 3 0) Sh.nil)))))) (Sh.cons (Sh.int .i64) (Sh.fst (Sh.cons (Sh.int .i64) Sh.nil)))))))) (Sh.hfix 3 47 (Sh.fst (Sh.cons (Sh.ros 57) Sh.nil)) (Sh.snd (Sh.hfix 1 55 (Sh.snd (Sh.cons (Sh.osl 2) Sh.nil)) (Sh.hrow 0 3 (Sh.fst (Sh.hrow 2 51 Sh.hnil)))))))
def B64_0_2 (K : (((Int × Int × Int) × (List (Int × (List (Int × Bool)) × List Int)) × List Int × List Int) → Option ((List (Int × (List (Int × Bool)) × List Int)) × List Int × List Int))) (v : (Int × Int × Int) × (List (Int × (List (Int × Bool)) × List Int)) × List Int × List Int) : Option ((List (Int × (List (Int × Bool)) × List Int)) × List Int × List Int) :=
  bif (v.1.2.1 != v.1.2.2) then
    bif (decide (v.1.2.1 > v.1.2.2)) then
      let x422 : Int := (IntKind.wrap .i64 (v.1.1 - v.1.2.1))
      (F68_0 ((x422, (v.1.1, v.1.2.2)), (v.2.1, (v.2.2.2, v.2.2.1)))).bind fun r423 =>
      let x424 : Int := (IntKind.wrap .i64 (v.1.2.1 - v.1.2.2))
      K ((v.1.1, (x424, v.1.2.2)), r423)
    else
      let x425 : Int := (IntKind.wrap .i64 (v.1.1 - v.1.2.1))
      let x426 : Int := (IntKind.wrap .i64 (v.1.1 + v.1.2.2))
      let x427 : Int := (IntKind.wrap .i64 (x426 - v.1.2.1))
      (F68_0 ((x425, (x427, v.1.2.1)), (v.2.1, (v.2.2.2, v.2.2.1)))).bind fun r428 =>
      let x429 : Int := (IntKind.wrap .i64 (v.1.2.2 - v.1.2.1))
      K ((v.1.1, (v.1.2.1, x429)), r428)
  else
    let x430 : Int := (IntKind.wrap .i64 (v.1.1 - v.1.2.1))
    (F68_0 ((x430, (v.1.1, v.1.2.1)), (v.2.1, (v.2.2.2, v.2.2.1)))).bind fun r431 =>
    some (r431)

def E64_0 (K : (((Int × Int × Int) × (List (Int × (List (Int × Bool)) × List Int)) × List Int × List Int) → Option ((List (Int × (List (Int × Bool)) × List Int)) × List Int × List Int))) (v : (Int × Int × Int) × (List (Int × (List (Int × Bool)) × List Int)) × List Int × List Int) : Option ((List (Int × (List (Int × Bool)) × List Int)) × List Int × List Int) :=
  let x420 : Int := (IntKind.wrap .i64 (v.1.2.1 - v.1.1))
  let x421 : Int := (IntKind.wrap .i64 (v.1.2.2 - v.1.2.1))
  K ((v.1.2.1, (x420, x421)), (v.2.1, (v.2.2.2, v.2.2.1)))

def K64_0 : Nat → (((Int × Int × Int) × (List (Int × (List (Int × Bool)) × List Int)) × List Int × List Int) → Option ((List (Int × (List (Int × Bool)) × List Int)) × List Int × List Int))
  | 0 => (fun _ => none)
  | n + 1 => (B64_0_2 (K64_0 n))
def fuel64_0 (v : (Int × Int × Int) × (List (Int × (List (Int × Bool)) × List Int)) × List Int × List Int) : Nat := 1000
def F64_0 (v : (Int × Int × Int) × (List (Int × (List (Int × Bool)) × List Int)) × List Int × List Int) : Option ((List (Int × (List (Int × Bool)) × List Int)) × List Int × List Int) := E64_0 (K64_0 (fuel64_0 v)) v
noncomputable def k64_0 : List (Known Try.prog E) := [Known.of envOk [7, 1, 1, 1, 130] [(.own 0 3), .keep, .keep, .keep, (.fn (.func 30) [] [(.ptr 1 0 55 [(.own 2 51)]), (.ptr 3 0 47 [(.ros 57)])])] v68_0 F68_0 w68_0 ok68_0]
def s64_0_2 : List (Nat × Pat) := [(0, (.own 0 3)), (2, .keep), (4, (.fn (.func 30) [] [(.ptr 1 0 55 []), (.ptr 3 0 47 [])])), (10, .keep), (11, .keep)]
noncomputable def L64_0 (n id : Nat) (st : St G) : Option ((List (Int × (List (Int × Bool)) × List Int)) × List Int × List Int) := match Nat.beq id 2 with | true => cutK Try.prog s64_0_2 [(.own 2 51), (.own 0 3), (.ptr 1 0 55 [(.own 2 51)]), (.ptr 3 0 47 [(.ros 57)])] c64_0_2.dec (K64_0 n) st | false => none
set_option maxRecDepth 100000 in
theorem e64_0 (n : Nat) (v : (Int × Int × Int) × (List (Int × (List (Int × Bool)) × List Int)) × List Int × List Int) : ev Try.prog E (oracle k64_0) Try.f64.ntmps (fun x => mem x [2]) (L64_0 n) (finF Try.prog E Try.f64.results.toList [[(.own 2 51), (.own 0 3), (.ptr 1 0 55 [(.own 2 51)]), (.ptr 3 0 47 [(.ros 57)])]] w64_0.alts) 4000 [.code (Try.f64.body.getD .skip)] (argSt (v64_0.enc v)) = E64_0 (K64_0 n) v := by kernel_rfl
set_option maxRecDepth 100000 in
theorem b64_0_2 (n : Nat) (v : (Int × Int × Int) × (List (Int × (List (Int × Bool)) × List Int)) × List Int × List Int) : evCut Try.prog E (oracle k64_0) false 64 Try.f64.ntmps (fun x => mem x [2]) (L64_0 n) (finF Try.prog E Try.f64.results.toList [[(.own 2 51), (.own 0 3), (.ptr 1 0 55 [(.own 2 51)]), (.ptr 3 0 47 [(.ros 57)])]] w64_0.alts) 4000 (todoAt (Try.f64.body.getD .skip) 2) (cutSt s64_0_2 (c64_0_2.enc v)) = B64_0_2 (K64_0 n) v := by kernel_rfl
theorem ok64_0 : FnOk Try.prog E 64 v64_0.enc F64_0 w64_0.enc :=
  fn_known (fn := Try.f64) (c := (Try.f64.body.getD .skip)) Try.func64 (by kernel_rfl) rfl envOk (oracle_ok k64_0) mixed v64_0 F64_0 w64_0 [(.own 2 51), (.own 0 3), (.ptr 1 0 55 [(.own 2 51)]), (.ptr 3 0 47 [(.ros 57)])] [[(.own 2 51), (.own 0 3), (.ptr 1 0 55 [(.own 2 51)]), (.ptr 3 0 47 [(.ros 57)])]] (by kernel_rfl) [2] 4000 L64_0 (by kernel_rfl)
    (List.forall_mem_cons.2 ⟨⟨_, [(.own 2 51), (.own 0 3), (.ptr 1 0 55 [(.own 2 51)]), (.ptr 3 0 47 [(.ros 57)])], s64_0_2, c64_0_2.dec, c64_0_2.enc, fun n => (K64_0 n), c64_0_2.ok, fun _ _ => rfl, fun _ => rfl, by kernel_rfl, fun n v _ h => (b64_0_2 n v).trans h⟩, fun _ h => (nomatch h)⟩) (fun v _ h => ⟨fuel64_0 v, (e64_0 _ v).trans h⟩) (fun _ => by kernel_rfl) (fun _ => by kernel_rfl) (fun _ _ => by kernel_rfl)
/- slices.symMergeCmpFunc[int] -/
abbrev A60_0 : Type := (Int × Int × Int) × (List (Int × (List (Int × Bool)) × List Int)) × List Int × List Int
abbrev R60_0 : Type := (List (Int × (List (Int × Bool)) × List Int)) × List Int × List Int
def v60_0 : Pk G ((Int × Int × Int) × (List (Int × (List (Int × Bool)) × List Int)) × List Int × List Int) := (pk (Sh.snd (Sh.cons (Sh.osl 0) (Sh.cons (Sh.int .i64) (Sh.cons (Sh.int .i64) (Sh.fst (Sh.cons (Sh.int .i64) (Sh.snd (Sh.cons (Sh.snd (Sh.fn (.func 30) Sh.nil (Sh.snd (Sh.cons (Sh.ptr 1 0) (Sh.snd (Sh.cons (Sh.ptr 3 0) Sh.nil)))))) Sh.nil)))))))) (Sh.hfix 3 47 (Sh.fst (Sh.cons (Sh.ros 57) Sh.nil)) (Sh.snd (Sh.hfix 1 55 (Sh.snd (Sh.cons (Sh.osl 2) Sh.nil)) (Sh.hrow 2 51 (Sh.fst (Sh.hrow 0 3 Sh.hnil)))))))
def w60_0 : Wk G ((List (Int × (List (Int × Bool)) × List Int)) × List Int × List Int) := (Wk.one [] (Pk.snd (pk Sh.nil (Sh.hfix 3 47 (Sh.fst (Sh.cons (Sh.ros 57) Sh.nil)) (Sh.snd (Sh.hfix 1 55 (Sh.snd (Sh.cons (Sh.osl 2) Sh.nil)) (Sh.hrow 0 3 (Sh.fst (Sh.hrow 2 51 Sh.hnil)))))))))
def c60_0_3 : Pk G ((Int × Int × Int) × (List (Int × (List (Int × Bool)) × List Int)) × List Int × List Int) := (pk (Sh.snd (Sh.cons (Sh.osl 0) (Sh.cons (Sh.int .i64) (Sh.snd (Sh.cons (Sh.snd (Sh.fn (.func 30) Sh.nil (Sh.snd (Sh.cons (Sh.ptr 1 0) (Sh.snd (Sh.cons (Sh.ptr 3 0) Sh.nil)))))) (Sh.cons (Sh.int .i64) (Sh.fst (Sh.cons (Sh.int .i64) Sh.nil)))))))) (Sh.hfix 3 47 (Sh.fst (Sh.cons (Sh.ros 57) Sh.nil)) (Sh.snd (Sh.hfix 1 55 (Sh.snd (Sh.cons (Sh.osl 2) Sh.nil)) (Sh.hrow 0 3 (Sh.fst (Sh.hrow 2 51 Sh.hnil)))))))
def c60_0_9 : Pk G ((Int × Int) × (List (Int × (List (Int × Bool)) × List Int)) × List Int × List Int) := (pk (Sh.snd (Sh.cons (Sh.osl 0) (Sh.cons (Sh.int .i64) (Sh.fst (Sh.cons (Sh.int .i64) Sh.nil))))) (Sh.hfix 3 47 (Sh.fst (Sh.cons (Sh.ros 57) Sh.nil)) (Sh.snd (Sh.hfix 1 55 (Sh.snd (Sh.cons (Sh.osl 2) Sh.nil)) (Sh.hrow 0 3 (Sh.fst (Sh.hrow 2 51 Sh.hnil)))))))
def c60_0_15 : Pk G ((Int × Int × Int) × (List (Int × (List (Int × Bool)) × List Int)) × List Int × List Int) := (pk (Sh.snd (Sh.cons (Sh.osl 0) (Sh.cons (Sh.int .i64) (Sh.snd (Sh.cons (Sh.snd (Sh.fn (.func 30) Sh.nil (Sh.snd (Sh.cons (Sh.ptr 1 0) (Sh.snd (Sh.cons (Sh.ptr 3 0) Sh.nil)))))) (Sh.cons (Sh.int .i64) (Sh.fst (Sh.cons (Sh.int .i64) Sh.nil)))))))) (Sh.hfix 3 47 (Sh.fst (Sh.cons (Sh.ros 57) Sh.nil)) (Sh.snd (Sh.hfix 1 55 (Sh.snd (Sh.cons (Sh.osl 2) Sh.nil)) (Sh.hrow 0 3 (Sh.fst (Sh.hrow 2 51 Sh.hnil)))))))
def c60_0_21 : Pk G ((Int × Int) × (List (Int × (List (Int × Bool)) × List Int)) × List Int × List Int) := (pk (Sh.snd (Sh.cons (Sh.osl 0) (Sh.cons (Sh.int .i64) (Sh.fst (Sh.cons (Sh.int .i64) Sh.nil))))) (Sh.hfix 3 47 (Sh.fst (Sh.cons (Sh.ros 57) Sh.nil)) (Sh.snd (Sh.hfix 1 55 (Sh.snd (Sh.cons (Sh.osl 2) Sh.nil)) (Sh.hrow 0 3 (Sh.fst (Sh.hrow 2 51 Sh.hnil)))))))
def c60_0_33 : Pk G ((Int × Int × Int × Int × Int × Int × Int × Int) × (List (Int × (List (Int × Bool)) × List Int)) × List Int × List Int) := (pk (Sh.snd (Sh.cons (Sh.osl 0) (Sh.cons (Sh.int .i64) (Sh.cons (Sh.int .i64) (Sh.cons (Sh.int .i64) (Sh.snd (Sh.cons (Sh.snd (Sh.fn (.func 30) Sh.nil (Sh.snd (Sh.cons (Sh.ptr 1 0) (Sh.snd (Sh.cons (Sh.ptr 3 0) Sh.nil)))))) (Sh.cons (Sh.int .i64) (Sh.cons (Sh.int .i64) (Sh.cons (Sh.int .i64) (Sh.cons (Sh.int .i64) (Sh.fst (Sh.cons (Sh.int .i64) Sh.nil))))))))))))) (Sh.hfix 3 47 (Sh.fst (Sh.cons (Sh.ros 57) Sh.nil)) (Sh.snd (Sh.hfix 1 55 (Sh.snd (Sh.cons (Sh.osl 2) Sh.nil)) (Sh.hrow 0 3 (Sh.fst (Sh.hrow 2 51 Sh.hnil)))))))
def B60_0_3 (Rc : ((Int × Int × Int) × (List (Int × (List (Int × Bool)) × List Int)) × List Int × List Int) → Option ((List (Int × (List (Int × Bool)) × List Int)) × List Int × List Int)) (K : (((Int × Int × Int) × (List (Int × (List (Int × Bool)) × List Int)) × List Int × List Int) → Option ((List (Int × (List (Int × Bool)) × List Int)) × List Int × List Int)) × (((Int × Int) × (List (Int × (List (Int × Bool)) × List Int)) × List Int × List Int) → Option ((List (Int × (List (Int × Bool)) × List Int)) × List Int × List Int)) × (((Int × Int × Int) × (List (Int × (List (Int × Bool)) × List Int)) × List Int × List Int) → Option ((List (Int × (List (Int × Bool)) × List Int)) × List Int × List Int)) × (((Int × Int) × (List (Int × (List (Int × Bool)) × List Int)) × List Int × List Int) → Option ((List (Int × (List (Int × Bool)) × List Int)) × List Int × List Int)) × (((Int × Int × Int × Int × Int × Int × Int × Int) × (List (Int × (List (Int × Bool)) × List Int)) × List Int × List Int) → Option ((List (Int × (List (Int × Bool)) × List Int)) × List Int × List Int))) (v : (Int × Int × Int) × (List (Int × (List (Int × Bool)) × List Int)) × List Int × List Int) : Option ((List (Int × (List (Int × Bool)) × List Int)) × List Int × List Int) :=
  bif (decide (v.1.2.1 < v.1.2.2)) then
    let x613 : Int := (IntKind.wrap .i64 (v.1.2.1 + v.1.2.2))
    let x614 : Int := (IntKind.wrap .u64 x613)
    let x615 : Int := (Int.fdiv x614 (2 ^ 1))
    let x616 : Int := (IntKind.wrap .i64 x615)
    (idx x616 (v.2.2.1).length).bind fun (x617 : Nat) =>
    ((v.2.2.1)[x617]?).bind fun (x618 : Int) =>
    (idx v.1.1 (v.2.2.1).length).bind fun (x619 : Nat) =>
    ((v.2.2.1)[x619]?).bind fun (x620 : Int) =>
    (F30_0 ((x618, x620), (v.2.1, v.2.2.2))).bind fun r621 =>
    bif (decide (r621.1 < (0 : Int))) then
      let x622 : Int := (IntKind.wrap .i64 (x616 + (1 : Int)))
      K.1 ((v.1.1, (x622, v.1.2.2)), (r621.2.1, (v.2.2.1, r621.2.2)))
    else
      K.1 ((v.1.1, (v.1.2.1, x616)), (r621.2.1, (v.2.2.1, r621.2.2)))
  else
    K.2.1 ((v.1.2.1, v.1.1), v.2)

def B60_0_9 (Rc : ((Int × Int × Int) × (List (Int × (List (Int × Bool)) × List Int)) × List Int × List Int) → Option ((List (Int × (List (Int × Bool)) × List Int)) × List Int × List Int)) (K : (((Int × Int × Int) × (List (Int × (List (Int × Bool)) × List Int)) × List Int × List Int) → Option ((List (Int × (List (Int × Bool)) × List Int)) × List Int × List Int)) × (((Int × Int) × (List (Int × (List (Int × Bool)) × List Int)) × List Int × List Int) → Option ((List (Int × (List (Int × Bool)) × List Int)) × List Int × List Int)) × (((Int × Int × Int) × (List (Int × (List (Int × Bool)) × List Int)) × List Int × List Int) → Option ((List (Int × (List (Int × Bool)) × List Int)) × List Int × List Int)) × (((Int × Int) × (List (Int × (List (Int × Bool)) × List Int)) × List Int × List Int) → Option ((List (Int × (List (Int × Bool)) × List Int)) × List Int × List Int)) × (((Int × Int × Int × Int × Int × Int × Int × Int) × (List (Int × (List (Int × Bool)) × List Int)) × List Int × List Int) → Option ((List (Int × (List (Int × Bool)) × List Int)) × List Int × List Int))) (v : (Int × Int) × (List (Int × (List (Int × Bool)) × List Int)) × List Int × List Int) : Option ((List (Int × (List (Int × Bool)) × List Int)) × List Int × List Int) :=
  let x623 : Int := (IntKind.wrap .i64 (v.1.1 - (1 : Int)))
  bif (decide (v.1.2 < x623)) then
    let x624 : Int := (IntKind.wrap .i64 (v.1.2 + (1 : Int)))
    let x625 : Int := (IntKind.wrap .i64 (v.1.2 + (1 : Int)))
    (idx x625 (v.2.2.1).length).bind fun (x626 : Nat) =>
    ((v.2.2.1)[x626]?).bind fun (x627 : Int) =>
    (idx v.1.2 (v.2.2.1).length).bind fun (x628 : Nat) =>
    ((v.2.2.1)[x628]?).bind fun (x629 : Int) =>
    (idx v.1.2 (v.2.2.1).length).bind fun (x630 : Nat) =>
    ((v.2.2.1)[x630]?).bind fun _ =>
    let x632 : List Int := (v.2.2.1).set x630 (x627)
    (idx x624 (x632).length).bind fun (x633 : Nat) =>
    ((x632)[x633]?).bind fun _ =>
    let x635 : List Int := (x632).set x633 (x629)
    let x636 : Int := (IntKind.wrap .i64 (v.1.2 + (1 : Int)))
    K.2.1 ((v.1.1, x636), (v.2.1, (x635, v.2.2.2)))
  else
    some (v.2)

def B60_0_15 (Rc : ((Int × Int × Int) × (List (Int × (List (Int × Bool)) × List Int)) × List Int × List Int) → Option ((List (Int × (List (Int × Bool)) × List Int)) × List Int × List Int)) (K : (((Int × Int × Int) × (List (Int × (List (Int × Bool)) × List Int)) × List Int × List Int) → Option ((List (Int × (List (Int × Bool)) × List Int)) × List Int × List Int)) × (((Int × Int) × (List (Int × (List (Int × Bool)) × List Int)) × List Int × List Int) → Option ((List (Int × (List (Int × Bool)) × List Int)) × List Int × List Int)) × (((Int × Int × Int) × (List (Int × (List (Int × Bool)) × List Int)) × List Int × List Int) → Option ((List (Int × (List (Int × Bool)) × List Int)) × List Int × List Int)) × (((Int × Int) × (List (Int × (List (Int × Bool)) × List Int)) × List Int × List Int) → Option ((List (Int × (List (Int × Bool)) × List Int)) × List Int × List Int)) × (((Int × Int × Int × Int × Int × Int × Int × Int) × (List (Int × (List (Int × Bool)) × List Int)) × List Int × List Int) → Option ((List (Int × (List (Int × Bool)) × List Int)) × List Int × List Int))) (v : (Int × Int × Int) × (List (Int × (List (Int × Bool)) × List Int)) × List Int × List Int) : Option ((List (Int × (List (Int × Bool)) × List Int)) × List Int × List Int) :=
  bif (decide (v.1.2.1 < v.1.2.2)) then
    let x637 : Int := (IntKind.wrap .i64 (v.1.2.1 + v.1.2.2))
    let x638 : Int := (IntKind.wrap .u64 x637)
    let x639 : Int := (Int.fdiv x638 (2 ^ 1))
    let x640 : Int := (IntKind.wrap .i64 x639)
    (idx v.1.1 (v.2.2.1).length).bind fun (x641 : Nat) =>
    ((v.2.2.1)[x641]?).bind fun (x642 : Int) =>
    (idx x640 (v.2.2.1).length).bind fun (x643 : Nat) =>
    ((v.2.2.1)[x643]?).bind fun (x644 : Int) =>
    (F30_0 ((x642, x644), (v.2.1, v.2.2.2))).bind fun r645 =>
    bif (!(decide (r645.1 < (0 : Int)))) then
      let x646 : Int := (IntKind.wrap .i64 (x640 + (1 : Int)))
      K.2.2.1 ((v.1.1, (x646, v.1.2.2)), (r645.2.1, (v.2.2.1, r645.2.2)))
    else
      K.2.2.1 ((v.1.1, (v.1.2.1, x640)), (r645.2.1, (v.2.2.1, r645.2.2)))
  else
    K.2.2.2.1 ((v.1.2.1, v.1.1), v.2)

def B60_0_21 (Rc : ((Int × Int × Int) × (List (Int × (List (Int × Bool)) × List Int)) × List Int × List Int) → Option ((List (Int × (List (Int × Bool)) × List Int)) × List Int × List Int)) (K : (((Int × Int × Int) × (List (Int × (List (Int × Bool)) × List Int)) × List Int × List Int) → Option ((List (Int × (List (Int × Bool)) × List Int)) × List Int × List Int)) × (((Int × Int) × (List (Int × (List (Int × Bool)) × List Int)) × List Int × List Int) → Option ((List (Int × (List (Int × Bool)) × List Int)) × List Int × List Int)) × (((Int × Int × Int) × (List (Int × (List (Int × Bool)) × List Int)) × List Int × List Int) → Option ((List (Int × (List (Int × Bool)) × List Int)) × List Int × List Int)) × (((Int × Int) × (List (Int × (List (Int × Bool)) × List Int)) × List Int × List Int) → Option ((List (Int × (List (Int × Bool)) × List Int)) × List Int × List Int)) × (((Int × Int × Int × Int × Int × Int × Int × Int) × (List (Int × (List (Int × Bool)) × List Int)) × List Int × List Int) → Option ((List (Int × (List (Int × Bool)) × List Int)) × List Int × List Int))) (v : (Int × Int) × (List (Int × (List (Int × Bool)) × List Int)) × List Int × List Int) : Option ((List (Int × (List (Int × Bool)) × List Int)) × List Int × List Int) :=
  bif (decide (v.1.2 > v.1.1)) then
    let x647 : Int := (IntKind.wrap .i64 (v.1.2 - (1 : Int)))
    let x648 : Int := (IntKind.wrap .i64 (v.1.2 - (1 : Int)))
    (idx x648 (v.2.2.1).length).bind fun (x649 : Nat) =>
    ((v.2.2.1)[x649]?).bind fun (x650 : Int) =>
    (idx v.1.2 (v.2.2.1).length).bind fun (x651 : Nat) =>
    ((v.2.2.1)[x651]?).bind fun (x652 : Int) =>
    (idx v.1.2 (v.2.2.1).length).bind fun (x653 : Nat) =>
    ((v.2.2.1)[x653]?).bind fun _ =>
    let x655 : List Int := (v.2.2.1).set x653 (x650)
    (idx x647 (x655).length).bind fun (x656 : Nat) =>
    ((x655)[x656]?).bind fun _ =>
    let x658 : List Int := (x655).set x656 (x652)
    let x659 : Int := (IntKind.wrap .i64 (v.1.2 - (1 : Int)))
    K.2.2.2.1 ((v.1.1, x659), (v.2.1, (x658, v.2.2.2)))
  else
    some (v.2)

def B60_0_33 (Rc : ((Int × Int × Int) × (List (Int × (List (Int × Bool)) × List Int)) × List Int × List Int) → Option ((List (Int × (List (Int × Bool)) × List Int)) × List Int × List Int)) (K : (((Int × Int × Int) × (List (Int × (List (Int × Bool)) × List Int)) × List Int × List Int) → Option ((List (Int × (List (Int × Bool)) × List Int)) × List Int × List Int)) × (((Int × Int) × (List (Int × (List (Int × Bool)) × List Int)) × List Int × List Int) → Option ((List (Int × (List (Int × Bool)) × List Int)) × List Int × List Int)) × (((Int × Int × Int) × (List (Int × (List (Int × Bool)) × List Int)) × List Int × List Int) → Option ((List (Int × (List (Int × Bool)) × List Int)) × List Int × List Int)) × (((Int × Int) × (List (Int × (List (Int × Bool)) × List Int)) × List Int × List Int) → Option ((List (Int × (List (Int × Bool)) × List Int)) × List Int × List Int)) × (((Int × Int × Int × Int × Int × Int × Int × Int) × (List (Int × (List (Int × Bool)) × List Int)) × List Int × List Int) → Option ((List (Int × (List (Int × Bool)) × List Int)) × List Int × List Int))) (v : (Int × Int × Int × Int × Int × Int × Int × Int) × (List (Int × (List (Int × Bool)) × List Int)) × List Int × List Int) : Option ((List (Int × (List (Int × Bool)) × List Int)) × List Int × List Int) :=
  bif (decide (v.1.2.2.2.2.2.1 < v.1.2.2.2.2.2.2.1)) then
    let x660 : Int := (IntKind.wrap .i64 (v.1.2.2.2.2.2.1 + v.1.2.2.2.2.2.2.1))
    let x661 : Int := (IntKind.wrap .u64 x660)
    let x662 : Int := (Int.fdiv x661 (2 ^ 1))
    let x663 : Int := (IntKind.wrap .i64 x662)
    let x664 : Int := (IntKind.wrap .i64 (v.1.2.2.2.2.2.2.2 - x663))
    (idx x664 (v.2.2.1).length).bind fun (x665 : Nat) =>
    ((v.2.2.1)[x665]?).bind fun (x666 : Int) =>
    (idx x663 (v.2.2.1).length).bind fun (x667 : Nat) =>
    ((v.2.2.1)[x667]?).bind fun (x668 : Int) =>
    (F30_0 ((x666, x668), (v.2.1, v.2.2.2))).bind fun r669 =>
    bif (!(decide (r669.1 < (0 : Int)))) then
      let x670 : Int := (IntKind.wrap .i64 (x663 + (1 : Int)))
      K.2.2.2.2 ((v.1.1, (v.1.2.1, (v.1.2.2.1, (v.1.2.2.2.1, (v.1.2.2.2.2.1, (x670, v.1.2.2.2.2.2.2)))))), (r669.2.1, (v.2.2.1, r669.2.2)))
    else
      K.2.2.2.2 ((v.1.1, (v.1.2.1, (v.1.2.2.1, (v.1.2.2.2.1, (v.1.2.2.2.2.1, (v.1.2.2.2.2.2.1, (x663, v.1.2.2.2.2.2.2.2))))))), (r669.2.1, (v.2.2.1, r669.2.2)))
  else
    let x671 : Int := (IntKind.wrap .i64 (v.1.2.2.2.2.1 - v.1.2.2.2.2.2.1))
    bif (decide (v.1.2.2.2.2.2.1 < v.1.2.1)) then
      bif (decide (v.1.2.1 < x671)) then
        (F64_0 ((v.1.2.2.2.2.2.1, (v.1.2.1, x671)), (v.2.1, (v.2.2.2, v.2.2.1)))).bind fun r672 =>
        bif (decide (v.1.1 < v.1.2.2.2.2.2.1)) then
          bif (decide (v.1.2.2.2.2.2.1 < v.1.2.2.2.1)) then
            (Rc ((v.1.1, (v.1.2.2.2.2.2.1, v.1.2.2.2.1)), (r672.1, (r672.2.2, r672.2.1)))).bind fun r673 =>
            bif (decide (v.1.2.2.2.1 < x671)) then
              bif (decide (x671 < v.1.2.2.1)) then
                (Rc ((v.1.2.2.2.1, (x671, v.1.2.2.1)), (r673.1, (r673.2.2, r673.2.1)))).bind fun r674 =>
                some (r674)
              else
                some (r673)
            else
              some (r673)
          else
            bif (decide (v.1.2.2.2.1 < x671)) then
              bif (decide (x671 < v.1.2.2.1)) then
                (Rc ((v.1.2.2.2.1, (x671, v.1.2.2.1)), (r672.1, (r672.2.2, r672.2.1)))).bind fun r675 =>
                some (r675)
              else
                some (r672)
            else
              some (r672)
        else
          bif (decide (v.1.2.2.2.1 < x671)) then
            bif (decide (x671 < v.1.2.2.1)) then
              (Rc ((v.1.2.2.2.1, (x671, v.1.2.2.1)), (r672.1, (r672.2.2, r672.2.1)))).bind fun r676 =>
              some (r676)
            else
              some (r672)
          else
            some (r672)
      else
        bif (decide (v.1.1 < v.1.2.2.2.2.2.1)) then
          bif (decide (v.1.2.2.2.2.2.1 < v.1.2.2.2.1)) then
            (Rc ((v.1.1, (v.1.2.2.2.2.2.1, v.1.2.2.2.1)), (v.2.1, (v.2.2.2, v.2.2.1)))).bind fun r677 =>
            bif (decide (v.1.2.2.2.1 < x671)) then
              bif (decide (x671 < v.1.2.2.1)) then
                (Rc ((v.1.2.2.2.1, (x671, v.1.2.2.1)), (r677.1, (r677.2.2, r677.2.1)))).bind fun r678 =>
                some (r678)
              else
                some (r677)
            else
              some (r677)
          else
            bif (decide (v.1.2.2.2.1 < x671)) then
              bif (decide (x671 < v.1.2.2.1)) then
                (Rc ((v.1.2.2.2.1, (x671, v.1.2.2.1)), (v.2.1, (v.2.2.2, v.2.2.1)))).bind fun r679 =>
                some (r679)
              else
                some (v.2)
            else
              some (v.2)
        else
          bif (decide (v.1.2.2.2.1 < x671)) then
            bif (decide (x671 < v.1.2.2.1)) then
              (Rc ((v.1.2.2.2.1, (x671, v.1.2.2.1)), (v.2.1, (v.2.2.2, v.2.2.1)))).bind fun r680 =>
              some (r680)
            else
              some (v.2)
          else
            some (v.2)
    else
      bif (decide (v.1.1 < v.1.2.2.2.2.2.1)) then
        bif (decide (v.1.2.2.2.2.2.1 < v.1.2.2.2.1)) then
          (Rc ((v.1.1, (v.1.2.2.2.2.2.1, v.1.2.2.2.1)), (v.2.1, (v.2.2.2, v.2.2.1)))).bind fun r681 =>
          bif (decide (v.1.2.2.2.1 < x671)) then
            bif (decide (x671 < v.1.2.2.1)) then
              (Rc ((v.1.2.2.2.1, (x671, v.1.2.2.1)), (r681.1, (r681.2.2, r681.2.1)))).bind fun r682 =>
              some (r682)
            else
              some (r681)
          else
            some (r681)
        else
          bif (decide (v.1.2.2.2.1 < x671)) then
            bif (decide (x671 < v.1.2.2.1)) then
              (Rc ((v.1.2.2.2.1, (x671, v.1.2.2.1)), (v.2.1, (v.2.2.2, v.2.2.1)))).bind fun r683 =>
              some (r683)
            else
              some (v.2)
          else
            some (v.2)
      else
        bif (decide (v.1.2.2.2.1 < x671)) then
          bif (decide (x671 < v.1.2.2.1)) then
            (Rc ((v.1.2.2.2.1, (x671, v.1.2.2.1)), (v.2.1, (v.2.2.2, v.2.2.1)))).bind fun r684 =>
            some (r684)
          else
            some (v.2)
        else
          some (v.2)

def E60_0 (Rc : ((Int × Int × Int) × (List (Int × (List (Int × Bool)) × List Int)) × List Int × List Int) → Option ((List (Int × (List (Int × Bool)) × List Int)) × List Int × List Int)) (K : (((Int × Int × Int) × (List (Int × (List (Int × Bool)) × List Int)) × List Int × List Int) → Option ((List (Int × (List (Int × Bool)) × List Int)) × List Int × List Int)) × (((Int × Int) × (List (Int × (List (Int × Bool)) × List Int)) × List Int × List Int) → Option ((List (Int × (List (Int × Bool)) × List Int)) × List Int × List Int)) × (((Int × Int × Int) × (List (Int × (List (Int × Bool)) × List Int)) × List Int × List Int) → Option ((List (Int × (List (Int × Bool)) × List Int)) × List Int × List Int)) × (((Int × Int) × (List (Int × (List (Int × Bool)) × List Int)) × List Int × List Int) → Option ((List (Int × (List (Int × Bool)) × List Int)) × List Int × List Int)) × (((Int × Int × Int × Int × Int × Int × Int × Int) × (List (Int × (List (Int × Bool)) × List Int)) × List Int × List Int) → Option ((List (Int × (List (Int × Bool)) × List Int)) × List Int × List Int))) (v : (Int × Int × Int) × (List (Int × (List (Int × Bool)) × List Int)) × List Int × List Int) : Option ((List (Int × (List (Int × Bool)) × List Int)) × List Int × List Int) :=
  let x603 : Int := (IntKind.wrap .i64 (v.1.2.1 - v.1.1))
  bif (x603 == (1 : Int)) then
    K.1 (v.1, (v.2.1, (v.2.2.2, v.2.2.1)))
  else
    let x604 : Int := (IntKind.wrap .i64 (v.1.2.2 - v.1.2.1))
    bif (x604 == (1 : Int)) then
      K.2.2.1 ((v.1.2.1, (v.1.1, v.1.2.1)), (v.2.1, (v.2.2.2, v.2.2.1)))
    else
      let x605 : Int := (IntKind.wrap .i64 (v.1.1 + v.1.2.2))
      let x606 : Int := (IntKind.wrap .u64 x605)
      let x607 : Int := (Int.fdiv x606 (2 ^ 1))
      let x608 : Int := (IntKind.wrap .i64 x607)
      let x609 : Int := (IntKind.wrap .i64 (x608 + v.1.2.1))
      bif (decide (v.1.2.1 > x608)) then
        let x610 : Int := (IntKind.wrap .i64 (x609 - v.1.2.2))
        let x611 : Int := (IntKind.wrap .i64 (x609 - (1 : Int)))
        K.2.2.2.2 ((v.1.1, (v.1.2.1, (v.1.2.2, (x608, (x609, (x610, (x608, x611))))))), (v.2.1, (v.2.2.2, v.2.2.1)))
      else
        let x612 : Int := (IntKind.wrap .i64 (x609 - (1 : Int)))
        K.2.2.2.2 ((v.1.1, (v.1.2.1, (v.1.2.2, (x608, (x609, (v.1.1, (v.1.2.1, x612))))))), (v.2.1, (v.2.2.2, v.2.2.1)))

def K60_0 (Rc : ((Int × Int × Int) × (List (Int × (List (Int × Bool)) × List Int)) × List Int × List Int) → Option ((List (Int × (List (Int × Bool)) × List Int)) × List Int × List Int)) : Nat → (((Int × Int × Int) × (List (Int × (List (Int × Bool)) × List Int)) × List Int × List Int) → Option ((List (Int × (List (Int × Bool)) × List Int)) × List Int × List Int)) × (((Int × Int) × (List (Int × (List (Int × Bool)) × List Int)) × List Int × List Int) → Option ((List (Int × (List (Int × Bool)) × List Int)) × List Int × List Int)) × (((Int × Int × Int) × (List (Int × (List (Int × Bool)) × List Int)) × List Int × List Int) → Option ((List (Int × (List (Int × Bool)) × List Int)) × List Int × List Int)) × (((Int × Int) × (List (Int × (List (Int × Bool)) × List Int)) × List Int × List Int) → Option ((List (Int × (List (Int × Bool)) × List Int)) × List Int × List Int)) × (((Int × Int × Int × Int × Int × Int × Int × Int) × (List (Int × (List (Int × Bool)) × List Int)) × List Int × List Int) → Option ((List (Int × (List (Int × Bool)) × List Int)) × List Int × List Int))
  | 0 => (fun _ => none, fun _ => none, fun _ => none, fun _ => none, fun _ => none)
  | n + 1 => (B60_0_3 Rc (K60_0 Rc n), B60_0_9 Rc (K60_0 Rc n), B60_0_15 Rc (K60_0 Rc n), B60_0_21 Rc (K60_0 Rc n), B60_0_33 Rc (K60_0 Rc n))
def fuel60_0 (v : (Int × Int × Int) × (List (Int × (List (Int × Bool)) × List Int)) × List Int × List Int) : Nat := 1000
def D60_0 (Rc : ((Int × Int × Int) × (List (Int × (List (Int × Bool)) × List Int)) × List Int × List Int) → Option ((List (Int × (List (Int × Bool)) × List Int)) × List Int × List Int)) (v : (Int × Int × Int) × (List (Int × (List (Int × Bool)) × List Int)) × List Int × List Int) : Option ((List (Int × (List (Int × Bool)) × List Int)) × List Int × List Int) := E60_0 Rc (K60_0 Rc (fuel60_0 v)) v
def Q60_0 : Nat → ((Int × Int × Int) × (List (Int × (List (Int × Bool)) × List Int)) × List Int × List Int) → Option ((List (Int × (List (Int × Bool)) × List Int)) × List Int × List Int)
  | 0 => fun _ => none
  | n + 1 => D60_0 (Q60_0 n)
def depth60_0 (v : (Int × Int × Int) × (List (Int × (List (Int × Bool)) × List Int)) × List Int × List Int) : Nat := 100
def F60_0 (v : (Int × Int × Int) × (List (Int × (List (Int × Bool)) × List Int)) × List Int × List Int) : Option ((List (Int × (List (Int × Bool)) × List Int)) × List Int × List Int) := Q60_0 (depth60_0 v) v
noncomputable def k60_0 (Rc : ((Int × Int × Int) × (List (Int × (List (Int × Bool)) × List Int)) × List Int × List Int) → Option ((List (Int × (List (Int × Bool)) × List Int)) × List Int × List Int)) (hR : FnOk Try.prog E 60 v60_0.enc Rc w60_0.enc) : List (Known Try.prog E) := [Known.of envOk [1, 1, 5, 5] [.keep, .keep, (.ptr 0 0 55 [(.own 1 51)]), (.ptr 2 0 47 [(.ros 57)])] v30_0 F30_0 w30_0 ok30_0, Known.of envOk [7, 1, 1, 1, 130] [(.own 0 3), .keep, .keep, .keep, (.fn (.func 30) [] [(.ptr 1 0 55 [(.own 2 51)]), (.ptr 3 0 47 [(.ros 57)])])] v64_0 F64_0 w64_0 ok64_0, Known.of envOk [7, 1, 1, 1, 130] [(.own 0 3), .keep, .keep, .keep, (.fn (.func 30) [] [(.ptr 1 0 55 [(.own 2 51)]), (.ptr 3 0 47 [(.ros 57)])])] v60_0 Rc w60_0 hR]
def s60_0_33 : List (Nat × Pat) := [(0, (.own 0 3)), (1, .keep), (2, .keep), (3, .keep), (4, (.fn (.func 30) [] [(.ptr 1 0 55 []), (.ptr 3 0 47 [])])), (18, .keep), (19, .keep), (20, .keep), (21, .keep), (22, .keep)]
def s60_0_21 : List (Nat × Pat) := [(0, (.own 0 3)), (14, .keep), (17, .keep)]
def s60_0_15 : List (Nat × Pat) := [(0, (.own 0 3)), (2, .keep), (4, (.fn (.func 30) [] [(.ptr 1 0 55 []), (.ptr 3 0 47 [])])), (14, .keep), (15, .keep)]
def s60_0_9 : List (Nat × Pat) := [(0, (.own 0 3)), (10, .keep), (13, .keep)]
def s60_0_3 : List (Nat × Pat) := [(0, (.own 0 3)), (1, .keep), (4, (.fn (.func 30) [] [(.ptr 1 0 55 []), (.ptr 3 0 47 [])])), (10, .keep), (11, .keep)]
noncomputable def L60_0 (Rc : ((Int × Int × Int) × (List (Int × (List (Int × Bool)) × List Int)) × List Int × List Int) → Option ((List (Int × (List (Int × Bool)) × List Int)) × List Int × List Int)) (n id : Nat) (st : St G) : Option ((List (Int × (List (Int × Bool)) × List Int)) × List Int × List Int) := match Nat.beq id 3 with | true => cutK Try.prog s60_0_3 [(.own 2 51), (.own 0 3), (.ptr 1 0 55 [(.own 2 51)]), (.ptr 3 0 47 [(.ros 57)])] c60_0_3.dec (K60_0 Rc n).1 st | false => match Nat.beq id 9 with | true => cutK Try.prog s60_0_9 [(.own 2 51), (.own 0 3), (.ptr 1 0 55 [(.own 2 51)]), (.ptr 3 0 47 [(.ros 57)])] c60_0_9.dec (K60_0 Rc n).2.1 st | false => match Nat.beq id 15 with | true => cutK Try.prog s60_0_15 [(.own 2 51), (.own 0 3), (.ptr 1 0 55 [(.own 2 51)]), (.ptr 3 0 47 [(.ros 57)])] c60_0_15.dec (K60_0 Rc n).2.2.1 st | false => match Nat.beq id 21 with | true => cutK Try.prog s60_0_21 [(.own 2 51), (.own 0 3), (.ptr 1 0 55 [(.own 2 51)]), (.ptr 3 0 47 [(.ros 57)])] c60_0_21.dec (K60_0 Rc n).2.2.2.1 st | false => match Nat.beq id 33 with | true => cutK Try.prog s60_0_33 [(.own 2 51), (.own 0 3), (.ptr 1 0 55 [(.own 2 51)]), (.ptr 3 0 47 [(.ros 57)])] c60_0_33.dec (K60_0 Rc n).2.2.2.2 st | false => none
set_option maxRecDepth 100000 in
theorem e60_0 (Rc : ((Int × Int × Int) × (List (Int × (List (Int × Bool)) × List Int)) × List Int × List Int) → Option ((List (Int × (List (Int × Bool)) × List Int)) × List Int × List Int)) (hR : FnOk Try.prog E 60 v60_0.enc Rc w60_0.enc) (n : Nat) (v : (Int × Int × Int) × (List (Int × (List (Int × Bool)) × List Int)) × List Int × List Int) : ev Try.prog E (oracle (k60_0 Rc hR)) Try.f60.ntmps (fun x => mem x [3, 9, 15, 21, 33]) (L60_0 Rc n) (finF Try.prog E Try.f60.results.toList [[(.own 2 51), (.own 0 3), (.ptr 1 0 55 [(.own 2 51)]), (.ptr 3 0 47 [(.ros 57)])]] w60_0.alts) 4000 [.code (Try.f60.body.getD .skip)] (argSt (v60_0.enc v)) = E60_0 Rc (K60_0 Rc n) v := by kernel_rfl
set_option maxRecDepth 100000 in
theorem b60_0_3 (Rc : ((Int × Int × Int) × (List (Int × (List (Int × Bool)) × List Int)) × List Int × List Int) → Option ((List (Int × (List (Int × Bool)) × List Int)) × List Int × List Int)) (hR : FnOk Try.prog E 60 v60_0.enc Rc w60_0.enc) (n : Nat) (v : (Int × Int × Int) × (List (Int × (List (Int × Bool)) × List Int)) × List Int × List Int) : evCut Try.prog E (oracle (k60_0 Rc hR)) false 60 Try.f60.ntmps (fun x => mem x [3, 9, 15, 21, 33]) (L60_0 Rc n) (finF Try.prog E Try.f60.results.toList [[(.own 2 51), (.own 0 3), (.ptr 1 0 55 [(.own 2 51)]), (.ptr 3 0 47 [(.ros 57)])]] w60_0.alts) 4000 (todoAt (Try.f60.body.getD .skip) 3) (cutSt s60_0_3 (c60_0_3.enc v)) = B60_0_3 Rc (K60_0 Rc n) v := by kernel_rfl
set_option maxRecDepth 100000 in
theorem b60_0_9 (Rc : ((Int × Int × Int) × (List (Int × (List (Int × Bool)) × List Int)) × List Int × List Int) → Option ((List (Int × (List (Int × Bool)) × List Int)) × List Int × List Int)) (hR : FnOk Try.prog E 60 v60_0.enc Rc w60_0.enc) (n : Nat) (v : (Int × Int) × (List (Int × (List (Int × Bool)) × List Int)) × List Int × List Int) : evCut Try.prog E (oracle (k60_0 Rc hR)) false 60 Try.f60.ntmps (fun x => mem x [3, 9, 15, 21, 33]) (L60_0 Rc n) (finF Try.prog E Try.f60.results.toList [[(.own 2 51), (.own 0 3), (.ptr 1 0 55 [(.own 2 51)]), (.ptr 3 0 47 [(.ros 57)])]] w60_0.alts) 4000 (todoAt (Try.f60.body.getD .skip) 9) (cutSt s60_0_9 (c60_0_9.enc v)) = B60_0_9 Rc (K60_0 Rc n) v := by kernel_rfl
set_option maxRecDepth 100000 in
theorem b60_0_15 (Rc : ((Int × Int × Int) × (List (Int × (List (Int × Bool)) × List Int)) × List Int × List Int) → Option ((List (Int × (List (Int × Bool)) × List Int)) × List Int × List Int)) (hR : FnOk Try.prog E 60 v60_0.enc Rc w60_0.enc) (n : Nat) (v : (Int × Int × Int) × (List (Int × (List (Int × Bool)) × List Int)) × List Int × List Int) : evCut Try.prog E (oracle (k60_0 Rc hR)) false 60 Try.f60.ntmps (fun x => mem x [3, 9, 15, 21, 33]) (L60_0 Rc n) (finF Try.prog E Try.f60.results.toList [[(.own 2 51), (.own 0 3), (.ptr 1 0 55 [(.own 2 51)]), (.ptr 3 0 47 [(.ros 57)])]] w60_0.alts) 4000 (todoAt (Try.f60.body.getD .skip) 15) (cutSt s60_0_15 (c60_0_15.enc v)) = B60_0_15 Rc (K60_0 Rc n) v := by kernel_rfl
set_option maxRecDepth 100000 in
theorem b60_0_21 (Rc : ((Int × Int × Int) × (List (Int × (List (Int × Bool)) × List Int)) × List Int × List Int) → Option ((List (Int × (List (Int × Bool)) × List Int)) × List Int × List Int)) (hR : FnOk Try.prog E 60 v60_0.enc Rc w60_0.enc) (n : Nat) (v : (Int × Int) × (List (Int × (List (Int × Bool)) × List Int)) × List Int × List Int) : evCut Try.prog E (oracle (k60_0 Rc hR)) false 60 Try.f60.ntmps (fun x => mem x [3, 9, 15, 21, 33]) (L60_0 Rc n) (finF Try.prog E Try.f60.results.toList [[(.own 2 51), (.own 0 3), (.ptr 1 0 55 [(.own 2 51)]), (.ptr 3 0 47 [(.ros 57)])]] w60_0.alts) 4000 (todoAt (Try.f60.body.getD .skip) 21) (cutSt s60_0_21 (c60_0_21.enc v)) = B60_0_21 Rc (K60_0 Rc n) v := by kernel_rfl
set_option maxRecDepth 100000 in
theorem b60_0_33 (Rc : ((Int × Int × Int) × (List (Int × (List (Int × Bool)) × List Int)) × List Int × List Int) → Option ((List (Int × (List (Int × Bool)) × List Int)) × List Int × List Int)) (hR : FnOk Try.prog E 60 v60_0.enc Rc w60_0.enc) (n : Nat) (v : (Int × Int × Int × Int × Int × Int × Int × Int) × (List (Int × (List (Int × Bool)) × List Int)) × List Int × List Int) : evCut Try.prog E (oracle (k60_0 Rc hR)) false 60 Try.f60.ntmps (fun x => mem x [3, 9, 15, 21, 33]) (L60_0 Rc n) (finF Try.prog E Try.f60.results.toList [[(.own 2 51), (.own 0 3), (.ptr 1 0 55 [(.own 2 51)]), (.ptr 3 0 47 [(.ros 57)])]] w60_0.alts) 4000 (todoAt (Try.f60.body.getD .skip) 33) (cutSt s60_0_33 (c60_0_33.enc v)) = B60_0_33 Rc (K60_0 Rc n) v := by kernel_rfl
theorem okD60_0 (Rc : ((Int × Int × Int) × (List (Int × (List (Int × Bool)) × List Int)) × List Int × List Int) → Option ((List (Int × (List (Int × Bool)) × List Int)) × List Int × List Int)) (hR : FnOk Try.prog E 60 v60_0.enc Rc w60_0.enc) : FnOk Try.prog E 60 v60_0.enc (D60_0 Rc) w60_0.enc :=
  fn_known (fn := Try.f60) (c := (Try.f60.body.getD .skip)) Try.func60 (by kernel_rfl) rfl envOk (oracle_ok (k60_0 Rc hR)) mixed v60_0 (D60_0 Rc) w60_0 [(.own 2 51), (.own 0 3), (.ptr 1 0 55 [(.own 2 51)]), (.ptr 3 0 47 [(.ros 57)])] [[(.own 2 51), (.own 0 3), (.ptr 1 0 55 [(.own 2 51)]), (.ptr 3 0 47 [(.ros 57)])]] (by kernel_rfl) [3, 9, 15, 21, 33] 4000 (L60_0 Rc) (by kernel_rfl)
    (List.forall_mem_cons.2 ⟨⟨_, [(.own 2 51), (.own 0 3), (.ptr 1 0 55 [(.own 2 51)]), (.ptr 3 0 47 [(.ros 57)])], s60_0_3, c60_0_3.dec, c60_0_3.enc, fun n => (K60_0 Rc n).1, c60_0_3.ok, fun _ _ => rfl, fun _ => rfl, by kernel_rfl, fun n v _ h => (b60_0_3 Rc hR n v).trans h⟩, List.forall_mem_cons.2 ⟨⟨_, [(.own 2 51), (.own 0 3), (.ptr 1 0 55 [(.own 2 51)]), (.ptr 3 0 47 [(.ros 57)])], s60_0_9, c60_0_9.dec, c60_0_9.enc, fun n => (K60_0 Rc n).2.1, c60_0_9.ok, fun _ _ => rfl, fun _ => rfl, by kernel_rfl, fun n v _ h => (b60_0_9 Rc hR n v).trans h⟩, List.forall_mem_cons.2 ⟨⟨_, [(.own 2 51), (.own 0 3), (.ptr 1 0 55 [(.own 2 51)]), (.ptr 3 0 47 [(.ros 57)])], s60_0_15, c60_0_15.dec, c60_0_15.enc, fun n => (K60_0 Rc n).2.2.1, c60_0_15.ok, fun _ _ => rfl, fun _ => rfl, by kernel_rfl, fun n v _ h => (b60_0_15 Rc hR n v).trans h⟩, List.forall_mem_cons.2 ⟨⟨_, [(.own 2 51), (.own 0 3), (.ptr 1 0 55 [(.own 2 51)]), (.ptr 3 0 47 [(.ros 57)])], s60_0_21, c60_0_21.dec, c60_0_21.enc, fun n => (K60_0 Rc n).2.2.2.1, c60_0_21.ok, fun _ _ => rfl, fun _ => rfl, by kernel_rfl, fun n v _ h => (b60_0_21 Rc hR n v).trans h⟩, List.forall_mem_cons.2 ⟨⟨_, [(.own 2 51), (.own 0 3), (.ptr 1 0 55 [(.own 2 51)]), (.ptr 3 0 47 [(.ros 57)])], s60_0_33, c60_0_33.dec, c60_0_33.enc, fun n => (K60_0 Rc n).2.2.2.2, c60_0_33.ok, fun _ _ => rfl, fun _ => rfl, by kernel_rfl, fun n v _ h => (b60_0_33 Rc hR n v).trans h⟩, fun _ h => (nomatch h)⟩⟩⟩⟩⟩) (fun v _ h => ⟨fuel60_0 v, (e60_0 Rc hR _ v).trans h⟩) (fun _ => by kernel_rfl) (fun _ => by kernel_rfl) (fun _ _ => by kernel_rfl)
theorem okQ60_0 : ∀ n, FnOk Try.prog E 60 v60_0.enc (Q60_0 n) w60_0.enc
  | 0 => fun _ _ h => nomatch h
  | n + 1 => okD60_0 (Q60_0 n) (okQ60_0 n)
theorem ok60_0 : FnOk Try.prog E 60 v60_0.enc F60_0 w60_0.enc := fun v r h => okQ60_0 (depth60_0 v) v r h
/- slices.swapRangeCmpFunc[int] -/
abbrev A68_1 : Type := Int × Int × Int
abbrev R68_1 : Type := Unit
def v68_1 : Pk G (Int × Int × Int) := (Pk.fst (pk (Sh.snd (Sh.cons Sh.any (Sh.cons (Sh.int .i64) (Sh.cons (Sh.int .i64) (Sh.fst (Sh.cons (Sh.int .i64) (Sh.snd (Sh.cons Sh.any Sh.nil)))))))) Sh.hnil))
def w68_1 : Wk G Unit := (Wk.one [] (Pk.snd (pk Sh.nil Sh.hnil)))
def c68_1_1 : Pk G (Int × Int × Int × Int) := (Pk.fst (pk (Sh.cons (Sh.int .i64) (Sh.cons (Sh.int .i64) (Sh.cons (Sh.int .i64) (Sh.fst (Sh.cons (Sh.int .i64) Sh.nil))))) Sh.hnil))
def B68_1_1 (K : ((Int × Int × Int × Int) → Option Unit)) (v : Int × Int × Int × Int) : Option Unit :=
  bif (decide (v.2.2.2 < v.2.2.1)) then
    none
  else
    some ()

def E68_1 (K : ((Int × Int × Int × Int) → Option Unit)) (v : Int × Int × Int) : Option Unit :=
  K (v.1, (v.2.1, (v.2.2, (0 : Int))))

def K68_1 : Nat → ((Int × Int × Int × Int) → Option Unit)
  | 0 => (fun _ => none)
  | n + 1 => (B68_1_1 (K68_1 n))
def fuel68_1 (v : Int × Int × Int) : Nat := 1000
def F68_1 (v : Int × Int × Int) : Option Unit := E68_1 (K68_1 (fuel68_1 v)) v
noncomputable def k68_1 : List (Known Try.prog E) := []
def s68_1_1 : List (Nat × Pat) := [(1, .keep), (2, .keep), (3, .keep), (10, .keep)]
noncomputable def L68_1 (n id : Nat) (st : St G) : Option Unit := match Nat.beq id 1 with | true => cutK Try.prog s68_1_1 [] c68_1_1.dec (K68_1 n) st | false => none
set_option maxRecDepth 100000 in
theorem e68_1 (n : Nat) (v : Int × Int × Int) : ev Try.prog E (oracle k68_1) Try.f68.ntmps (fun x => mem x [1]) (L68_1 n) (finF Try.prog E Try.f68.results.toList [[]] w68_1.alts) 4000 [.code (Try.f68.body.getD .skip)] (argSt (v68_1.enc v)) = E68_1 (K68_1 n) v := by kernel_rfl
set_option maxRecDepth 100000 in
theorem b68_1_1 (n : Nat) (v : Int × Int × Int × Int) : evCut Try.prog E (oracle k68_1) false 68 Try.f68.ntmps (fun x => mem x [1]) (L68_1 n) (finF Try.prog E Try.f68.results.toList [[]] w68_1.alts) 4000 (todoAt (Try.f68.body.getD .skip) 1) (cutSt s68_1_1 (c68_1_1.enc v)) = B68_1_1 (K68_1 n) v := by kernel_rfl
theorem ok68_1 : FnOk Try.prog E 68 v68_1.enc F68_1 w68_1.enc :=
  fn_known (fn := Try.f68) (c := (Try.f68.body.getD .skip)) Try.func68 (by kernel_rfl) rfl envOk (oracle_ok k68_1) mixed v68_1 F68_1 w68_1 [] [[]] (by kernel_rfl) [1] 4000 L68_1 (by kernel_rfl)
    (List.forall_mem_cons.2 ⟨⟨_, [], s68_1_1, c68_1_1.dec, c68_1_1.enc, fun n => (K68_1 n), c68_1_1.ok, fun _ _ => rfl, fun _ => rfl, by kernel_rfl, fun n v _ h => (b68_1_1 n v).trans h⟩, fun _ h => (nomatch h)⟩) (fun v _ h => ⟨fuel68_1 v, (e68_1 _ v).trans h⟩) (fun _ => by kernel_rfl) (fun _ => by kernel_rfl) (fun _ _ => by kernel_rfl)
/- slices.rotateCmpFunc[int] -/
abbrev A64_1 : Type := Int × Int × Int
abbrev R64_1 : Type := Unit
def v64_1 : Pk G (Int × Int × Int) := (Pk.fst (pk (Sh.snd (Sh.cons Sh.any (Sh.cons (Sh.int .i64) (Sh.cons (Sh.int .i64) (Sh.fst (Sh.cons (Sh.int .i64) (Sh.snd (Sh.cons Sh.any Sh.nil)))))))) Sh.hnil))
def w64_1 : Wk G Unit := (Wk.one [] (Pk.snd (pk Sh.nil Sh.hnil)))
def c64_1_2 : Pk G (Int × Int × Int) := (Pk.fst (pk (Sh.cons (Sh.int .i64) (Sh.cons (Sh.int .i64) (Sh.fst (Sh.cons (Sh.int .i64) Sh.nil)))) Sh.hnil))
def B64_1_2 (K : ((Int × Int × Int) → Option Unit)) (v : Int × Int × Int) : Option Unit :=
  bif (v.2.1 != v.2.2) then
    bif (decide (v.2.1 > v.2.2)) then
      let x766 : Int := (IntKind.wrap .i64 (v.1 - v.2.1))
      (F68_1 (x766, (v.1, v.2.2))).bind fun _ =>
      let x768 : Int := (IntKind.wrap .i64 (v.2.1 - v.2.2))
      K (v.1, (x768, v.2.2))
    else
      let x769 : Int := (IntKind.wrap .i64 (v.1 - v.2.1))
      let x770 : Int := (IntKind.wrap .i64 (v.1 + v.2.2))
      let x771 : Int := (IntKind.wrap .i64 (x770 - v.2.1))
      (F68_1 (x769, (x771, v.2.1))).bind fun _ =>
      let x773 : Int := (IntKind.wrap .i64 (v.2.2 - v.2.1))
      K (v.1, (v.2.1, x773))
  else
    let x774 : Int := (IntKind.wrap .i64 (v.1 - v.2.1))
    (F68_1 (x774, (v.1, v.2.1))).bind fun _ =>
    some ()

def E64_1 (K : ((Int × Int × Int) → Option Unit)) (v : Int × Int × Int) : Option Unit :=
  let x764 : Int := (IntKind.wrap .i64 (v.2.1 - v.1))
  let x765 : Int := (IntKind.wrap .i64 (v.2.2 - v.2.1))
  K (v.2.1, (x764, x765))

def K64_1 : Nat → ((Int × Int × Int) → Option Unit)
  | 0 => (fun _ => none)
  | n + 1 => (B64_1_2 (K64_1 n))
def fuel64_1 (v : Int × Int × Int) : Nat := 1000
def F64_1 (v : Int × Int × Int) : Option Unit := E64_1 (K64_1 (fuel64_1 v)) v
noncomputable def k64_1 : List (Known Try.prog E) := [Known.of envOk [0, 1, 1, 1, 0] [.any, .keep, .keep, .keep, .any] v68_1 F68_1 w68_1 ok68_1]
def s64_1_2 : List (Nat × Pat) := [(2, .keep), (10, .keep), (11, .keep)]
noncomputable def L64_1 (n id : Nat) (st : St G) : Option Unit := match Nat.beq id 2 with | true => cutK Try.prog s64_1_2 [] c64_1_2.dec (K64_1 n) st | false => none
set_option maxRecDepth 100000 in
theorem e64_1 (n : Nat) (v : Int × Int × Int) : ev Try.prog E (oracle k64_1) Try.f64.ntmps (fun x => mem x [2]) (L64_1 n) (finF Try.prog E Try.f64.results.toList [[]] w64_1.alts) 4000 [.code (Try.f64.body.getD .skip)] (argSt (v64_1.enc v)) = E64_1 (K64_1 n) v := by kernel_rfl
set_option maxRecDepth 100000 in
theorem b64_1_2 (n : Nat) (v : Int × Int × Int) : evCut Try.prog E (oracle k64_1) false 64 Try.f64.ntmps (fun x => mem x [2]) (L64_1 n) (finF Try.prog E Try.f64.results.toList [[]] w64_1.alts) 4000 (todoAt (Try.f64.body.getD .skip) 2) (cutSt s64_1_2 (c64_1_2.enc v)) = B64_1_2 (K64_1 n) v := by kernel_rfl
theorem ok64_1 : FnOk Try.prog E 64 v64_1.enc F64_1 w64_1.enc :=
  fn_known (fn := Try.f64) (c := (Try.f64.body.getD .skip)) Try.func64 (by kernel_rfl) rfl envOk (oracle_ok k64_1) mixed v64_1 F64_1 w64_1 [] [[]] (by kernel_rfl) [2] 4000 L64_1 (by kernel_rfl)
    (List.forall_mem_cons.2 ⟨⟨_, [], s64_1_2, c64_1_2.dec, c64_1_2.enc, fun n => (K64_1 n), c64_1_2.ok, fun _ _ => rfl, fun _ => rfl, by kernel_rfl, fun n v _ h => (b64_1_2 n v).trans h⟩, fun _ h => (nomatch h)⟩) (fun v _ h => ⟨fuel64_1 v, (e64_1 _ v).trans h⟩) (fun _ => by kernel_rfl) (fun _ => by kernel_rfl) (fun _ _ => by kernel_rfl)
/- slices.symMergeCmpFunc[int] -/
abbrev A60_1 : Type := Int × Int × Int
abbrev R60_1 : Type := Unit
def v60_1 : Pk G (Int × Int × Int) := (Pk.fst (pk (Sh.snd (Sh.cons Sh.any (Sh.cons (Sh.int .i64) (Sh.cons (Sh.int .i64) (Sh.fst (Sh.cons (Sh.int .i64) (Sh.snd (Sh.cons Sh.any Sh.nil)))))))) Sh.hnil))
def w60_1 : Wk G Unit := (Wk.one [] (Pk.snd (pk Sh.nil Sh.hnil)))
def c60_1_3 : Pk G (Int × Int × Int) := (Pk.fst (pk (Sh.cons (Sh.int .i64) (Sh.cons (Sh.int .i64) (Sh.fst (Sh.cons (Sh.int .i64) Sh.nil)))) Sh.hnil))
def c60_1_9 : Pk G (Int × Int) := (Pk.fst (pk (Sh.cons (Sh.int .i64) (Sh.fst (Sh.cons (Sh.int .i64) Sh.nil))) Sh.hnil))
def c60_1_15 : Pk G (Int × Int × Int) := (Pk.fst (pk (Sh.cons (Sh.int .i64) (Sh.cons (Sh.int .i64) (Sh.fst (Sh.cons (Sh.int .i64) Sh.nil)))) Sh.hnil))
def c60_1_21 : Pk G (Int × Int) := (Pk.fst (pk (Sh.cons (Sh.int .i64) (Sh.fst (Sh.cons (Sh.int .i64) Sh.nil))) Sh.hnil))
def c60_1_33 : Pk G (Int × Int × Int × Int × Int × Int × Int × Int) := (Pk.fst (pk (Sh.cons (Sh.int .i64) (Sh.cons (Sh.int .i64) (Sh.cons (Sh.int .i64) (Sh.cons (Sh.int .i64) (Sh.cons (Sh.int .i64) (Sh.cons (Sh.int .i64) (Sh.cons (Sh.int .i64) (Sh.fst (Sh.cons (Sh.int .i64) Sh.nil))))))))) Sh.hnil))
def B60_1_3 (Rc : (Int × Int × Int) → Option Unit) (K : ((Int × Int × Int) → Option Unit) × ((Int × Int) → Option Unit) × ((Int × Int × Int) → Option Unit) × ((Int × Int) → Option Unit) × ((Int × Int × Int × Int × Int × Int × Int × Int) → Option Unit)) (v : Int × Int × Int) : Option Unit :=
  bif (decide (v.2.1 < v.2.2)) then
    none
  else
    K.2.1 (v.2.1, v.1)

def B60_1_9 (Rc : (Int × Int × Int) → Option Unit) (K : ((Int × Int × Int) → Option Unit) × ((Int × Int) → Option Unit) × ((Int × Int × Int) → Option Unit) × ((Int × Int) → Option Unit) × ((Int × Int × Int × Int × Int × Int × Int × Int) → Option Unit)) (v : Int × Int) : Option Unit :=
  let x854 : Int := (IntKind.wrap .i64 (v.1 - (1 : Int)))
  bif (decide (v.2 < x854)) then
    none
  else
    some ()

def B60_1_15 (Rc : (Int × Int × Int) → Option Unit) (K : ((Int × Int × Int) → Option Unit) × ((Int × Int) → Option Unit) × ((Int × Int × Int) → Option Unit) × ((Int × Int) → Option Unit) × ((Int × Int × Int × Int × Int × Int × Int × Int) → Option Unit)) (v : Int × Int × Int) : Option Unit :=
  bif (decide (v.2.1 < v.2.2)) then
    none
  else
    K.2.2.2.1 (v.2.1, v.1)

def B60_1_21 (Rc : (Int × Int × Int) → Option Unit) (K : ((Int × Int × Int) → Option Unit) × ((Int × Int) → Option Unit) × ((Int × Int × Int) → Option Unit) × ((Int × Int) → Option Unit) × ((Int × Int × Int × Int × Int × Int × Int × Int) → Option Unit)) (v : Int × Int) : Option Unit :=
  bif (decide (v.2 > v.1)) then
    none
  else
    some ()

def B60_1_33 (Rc : (Int × Int × Int) → Option Unit) (K : ((Int × Int × Int) → Option Unit) × ((Int × Int) → Option Unit) × ((Int × Int × Int) → Option Unit) × ((Int × Int) → Option Unit) × ((Int × Int × Int × Int × Int × Int × Int × Int) → Option Unit)) (v : Int × Int × Int × Int × Int × Int × Int × Int) : Option Unit :=
  bif (decide (v.2.2.2.2.2.1 < v.2.2.2.2.2.2.1)) then
    none
  else
    let x868 : Int := (IntKind.wrap .i64 (v.2.2.2.2.1 - v.2.2.2.2.2.1))
    bif (decide (v.2.2.2.2.2.1 < v.2.1)) then
      bif (decide (v.2.1 < x868)) then
        (F64_1 (v.2.2.2.2.2.1, (v.2.1, x868))).bind fun _ =>
        bif (decide (v.1 < v.2.2.2.2.2.1)) then
          bif (decide (v.2.2.2.2.2.1 < v.2.2.2.1)) then
            (Rc (v.1, (v.2.2.2.2.2.1, v.2.2.2.1))).bind fun _ =>
            bif (decide (v.2.2.2.1 < x868)) then
              bif (decide (x868 < v.2.2.1)) then
                (Rc (v.2.2.2.1, (x868, v.2.2.1))).bind fun _ =>
                some ()
              else
                some ()
            else
              some ()
          else
            bif (decide (v.2.2.2.1 < x868)) then
              bif (decide (x868 < v.2.2.1)) then
                (Rc (v.2.2.2.1, (x868, v.2.2.1))).bind fun _ =>
                some ()
              else
                some ()
            else
              some ()
        else
          bif (decide (v.2.2.2.1 < x868)) then
            bif (decide (x868 < v.2.2.1)) then
              (Rc (v.2.2.2.1, (x868, v.2.2.1))).bind fun _ =>
              some ()
            else
              some ()
          else
            some ()
      else
        bif (decide (v.1 < v.2.2.2.2.2.1)) then
          bif (decide (v.2.2.2.2.2.1 < v.2.2.2.1)) then
            (Rc (v.1, (v.2.2.2.2.2.1, v.2.2.2.1))).bind fun _ =>
            bif (decide (v.2.2.2.1 < x868)) then
              bif (decide (x868 < v.2.2.1)) then
                (Rc (v.2.2.2.1, (x868, v.2.2.1))).bind fun _ =>
                some ()
              else
                some ()
            else
              some ()
          else
            bif (decide (v.2.2.2.1 < x868)) then
              bif (decide (x868 < v.2.2.1)) then
                (Rc (v.2.2.2.1, (x868, v.2.2.1))).bind fun _ =>
                some ()
              else
                some ()
            else
              some ()
        else
          bif (decide (v.2.2.2.1 < x868)) then
            bif (decide (x868 < v.2.2.1)) then
              (Rc (v.2.2.2.1, (x868, v.2.2.1))).bind fun _ =>
              some ()
            else
              some ()
          else
            some ()
    else
      bif (decide (v.1 < v.2.2.2.2.2.1)) then
        bif (decide (v.2.2.2.2.2.1 < v.2.2.2.1)) then
          (Rc (v.1, (v.2.2.2.2.2.1, v.2.2.2.1))).bind fun _ =>
          bif (decide (v.2.2.2.1 < x868)) then
            bif (decide (x868 < v.2.2.1)) then
              (Rc (v.2.2.2.1, (x868, v.2.2.1))).bind fun _ =>
              some ()
            else
              some ()
          else
            some ()
        else
          bif (decide (v.2.2.2.1 < x868)) then
            bif (decide (x868 < v.2.2.1)) then
              (Rc (v.2.2.2.1, (x868, v.2.2.1))).bind fun _ =>
              some ()
            else
              some ()
          else
            some ()
      else
        bif (decide (v.2.2.2.1 < x868)) then
          bif (decide (x868 < v.2.2.1)) then
            (Rc (v.2.2.2.1, (x868, v.2.2.1))).bind fun _ =>
            some ()
          else
            some ()
        else
          some ()

def E60_1 (Rc : (Int × Int × Int) → Option Unit) (K : ((Int × Int × Int) → Option Unit) × ((Int × Int) → Option Unit) × ((Int × Int × Int) → Option Unit) × ((Int × Int) → Option Unit) × ((Int × Int × Int × Int × Int × Int × Int × Int) → Option Unit)) (v : Int × Int × Int) : Option Unit :=
  let x840 : Int := (IntKind.wrap .i64 (v.2.1 - v.1))
  bif (x840 == (1 : Int)) then
    K.1 (v)
  else
    let x841 : Int := (IntKind.wrap .i64 (v.2.2 - v.2.1))
    bif (x841 == (1 : Int)) then
      K.2.2.1 (v.2.1, (v.1, v.2.1))
    else
      let x842 : Int := (IntKind.wrap .i64 (v.1 + v.2.2))
      let x843 : Int := (IntKind.wrap .u64 x842)
      let x844 : Int := (Int.fdiv x843 (2 ^ 1))
      let x845 : Int := (IntKind.wrap .i64 x844)
      let x846 : Int := (IntKind.wrap .i64 (x845 + v.2.1))
      bif (decide (v.2.1 > x845)) then
        let x847 : Int := (IntKind.wrap .i64 (x846 - v.2.2))
        let x848 : Int := (IntKind.wrap .i64 (x846 - (1 : Int)))
        K.2.2.2.2 (v.1, (v.2.1, (v.2.2, (x845, (x846, (x847, (x845, x848)))))))
      else
        let x849 : Int := (IntKind.wrap .i64 (x846 - (1 : Int)))
        K.2.2.2.2 (v.1, (v.2.1, (v.2.2, (x845, (x846, (v.1, (v.2.1, x849)))))))

def K60_1 (Rc : (Int × Int × Int) → Option Unit) : Nat → ((Int × Int × Int) → Option Unit) × ((Int × Int) → Option Unit) × ((Int × Int × Int) → Option Unit) × ((Int × Int) → Option Unit) × ((Int × Int × Int × Int × Int × Int × Int × Int) → Option Unit)
  | 0 => (fun _ => none, fun _ => none, fun _ => none, fun _ => none, fun _ => none)
  | n + 1 => (B60_1_3 Rc (K60_1 Rc n), B60_1_9 Rc (K60_1 Rc n), B60_1_15 Rc (K60_1 Rc n), B60_1_21 Rc (K60_1 Rc n), B60_1_33 Rc (K60_1 Rc n))
def fuel60_1 (v : Int × Int × Int) : Nat := 1000
def D60_1 (Rc : (Int × Int × Int) → Option Unit) (v : Int × Int × Int) : Option Unit := E60_1 Rc (K60_1 Rc (fuel60_1 v)) v
def Q60_1 : Nat → (Int × Int × Int) → Option Unit
  | 0 => fun _ => none
  | n + 1 => D60_1 (Q60_1 n)
def depth60_1 (v : Int × Int × Int) : Nat := 100
def F60_1 (v : Int × Int × Int) : Option Unit := Q60_1 (depth60_1 v) v
noncomputable def k60_1 (Rc : (Int × Int × Int) → Option Unit) (hR : FnOk Try.prog E 60 v60_1.enc Rc w60_1.enc) : List (Known Try.prog E) := [Known.of envOk [0, 1, 1, 1, 0] [.any, .keep, .keep, .keep, .any] v64_1 F64_1 w64_1 ok64_1, Known.of envOk [0, 1, 1, 1, 0] [.any, .keep, .keep, .keep, .any] v60_1 Rc w60_1 hR]
def s60_1_33 : List (Nat × Pat) := [(1, .keep), (2, .keep), (3, .keep), (18, .keep), (19, .keep), (20, .keep), (21, .keep), (22, .keep)]
def s60_1_21 : List (Nat × Pat) := [(14, .keep), (17, .keep)]
def s60_1_15 : List (Nat × Pat) := [(2, .keep), (14, .keep), (15, .keep)]
def s60_1_9 : List (Nat × Pat) := [(10, .keep), (13, .keep)]
def s60_1_3 : List (Nat × Pat) := [(1, .keep), (10, .keep), (11, .keep)]
noncomputable def L60_1 (Rc : (Int × Int × Int) → Option Unit) (n id : Nat) (st : St G) : Option Unit := match Nat.beq id 3 with | true => cutK Try.prog s60_1_3 [] c60_1_3.dec (K60_1 Rc n).1 st | false => match Nat.beq id 9 with | true => cutK Try.prog s60_1_9 [] c60_1_9.dec (K60_1 Rc n).2.1 st | false => match Nat.beq id 15 with | true => cutK Try.prog s60_1_15 [] c60_1_15.dec (K60_1 Rc n).2.2.1 st | false => match Nat.beq id 21 with | true => cutK Try.prog s60_1_21 [] c60_1_21.dec (K60_1 Rc n).2.2.2.1 st | false => match Nat.beq id 33 with | true => cutK Try.prog s60_1_33 [] c60_1_33.dec (K60_1 Rc n).2.2.2.2 st | false => none
set_option maxRecDepth 100000 in
theorem e60_1 (Rc : (Int × Int × Int) → Option Unit) (hR : FnOk Try.prog E 60 v60_1.enc Rc w60_1.enc) (n : Nat) (v : Int × Int × Int) : ev Try.prog E (oracle (k60_1 Rc hR)) Try.f60.ntmps (fun x => mem x [3, 9, 15, 21, 33]) (L60_1 Rc n) (finF Try.prog E Try.f60.results.toList [[]] w60_1.alts) 4000 [.code (Try.f60.body.getD .skip)] (argSt (v60_1.enc v)) = E60_1 Rc (K60_1 Rc n) v := by kernel_rfl
set_option maxRecDepth 100000 in
theorem b60_1_3 (Rc : (Int × Int × Int) → Option Unit) (hR : FnOk Try.prog E 60 v60_1.enc Rc w60_1.enc) (n : Nat) (v : Int × Int × Int) : evCut Try.prog E (oracle (k60_1 Rc hR)) false 60 Try.f60.ntmps (fun x => mem x [3, 9, 15, 21, 33]) (L60_1 Rc n) (finF Try.prog E Try.f60.results.toList [[]] w60_1.alts) 4000 (todoAt (Try.f60.body.getD .skip) 3) (cutSt s60_1_3 (c60_1_3.enc v)) = B60_1_3 Rc (K60_1 Rc n) v := by kernel_rfl
set_option maxRecDepth 100000 in
theorem b60_1_9 (Rc : (Int × Int × Int) → Option Unit) (hR : FnOk Try.prog E 60 v60_1.enc Rc w60_1.enc) (n : Nat) (v : Int × Int) : evCut Try.prog E (oracle (k60_1 Rc hR)) false 60 Try.f60.ntmps (fun x => mem x [3, 9, 15, 21, 33]) (L60_1 Rc n) (finF Try.prog E Try.f60.results.toList [[]] w60_1.alts) 4000 (todoAt (Try.f60.body.getD .skip) 9) (cutSt s60_1_9 (c60_1_9.enc v)) = B60_1_9 Rc (K60_1 Rc n) v := by kernel_rfl
set_option maxRecDepth 100000 in
theorem b60_1_15 (Rc : (Int × Int × Int) → Option Unit) (hR : FnOk Try.prog E 60 v60_1.enc Rc w60_1.enc) (n : Nat) (v : Int × Int × Int) : evCut Try.prog E (oracle (k60_1 Rc hR)) false 60 Try.f60.ntmps (fun x => mem x [3, 9, 15, 21, 33]) (L60_1 Rc n) (finF Try.prog E Try.f60.results.toList [[]] w60_1.alts) 4000 (todoAt (Try.f60.body.getD .skip) 15) (cutSt s60_1_15 (c60_1_15.enc v)) = B60_1_15 Rc (K60_1 Rc n) v := by kernel_rfl
set_option maxRecDepth 100000 in
theorem b60_1_21 (Rc : (Int × Int × Int) → Option Unit) (hR : FnOk Try.prog E 60 v60_1.enc Rc w60_1.enc) (n : Nat) (v : Int × Int) : evCut Try.prog E (oracle (k60_1 Rc hR)) false 60 Try.f60.ntmps (fun x => mem x [3, 9, 15, 21, 33]) (L60_1 Rc n) (finF Try.prog E Try.f60.results.toList [[]] w60_1.alts) 4000 (todoAt (Try.f60.body.getD .skip) 21) (cutSt s60_1_21 (c60_1_21.enc v)) = B60_1_21 Rc (K60_1 Rc n) v := by kernel_rfl
set_option maxRecDepth 100000 in
theorem b60_1_33 (Rc : (Int × Int × Int) → Option Unit) (hR : FnOk Try.prog E 60 v60_1.enc Rc w60_1.enc) (n : Nat) (v : Int × Int × Int × Int × Int × Int × Int × Int) : evCut Try.prog E (oracle (k60_1 Rc hR)) false 60 Try.f60.ntmps (fun x => mem x [3, 9, 15, 21, 33]) (L60_1 Rc n) (finF Try.prog E Try.f60.results.toList [[]] w60_1.alts) 4000 (todoAt (Try.f60.body.getD .skip) 33) (cutSt s60_1_33 (c60_1_33.enc v)) = B60_1_33 Rc (K60_1 Rc n) v := by kernel_rfl
theorem okD60_1 (Rc : (Int × Int × Int) → Option Unit) (hR : FnOk Try.prog E 60 v60_1.enc Rc w60_1.enc) : FnOk Try.prog E 60 v60_1.enc (D60_1 Rc) w60_1.enc :=
  fn_known (fn := Try.f60) (c := (Try.f60.body.getD .skip)) Try.func60 (by kernel_rfl) rfl envOk (oracle_ok (k60_1 Rc hR)) mixed v60_1 (D60_1 Rc) w60_1 [] [[]] (by kernel_rfl) [3, 9, 15, 21, 33] 4000 (L60_1 Rc) (by kernel_rfl)
    (List.forall_mem_cons.2 ⟨⟨_, [], s60_1_3, c60_1_3.dec, c60_1_3.enc, fun n => (K60_1 Rc n).1, c60_1_3.ok, fun _ _ => rfl, fun _ => rfl, by kernel_rfl, fun n v _ h => (b60_1_3 Rc hR n v).trans h⟩, List.forall_mem_cons.2 ⟨⟨_, [], s60_1_9, c60_1_9.dec, c60_1_9.enc, fun n => (K60_1 Rc n).2.1, c60_1_9.ok, fun _ _ => rfl, fun _ => rfl, by kernel_rfl, fun n v _ h => (b60_1_9 Rc hR n v).trans h⟩, List.forall_mem_cons.2 ⟨⟨_, [], s60_1_15, c60_1_15.dec, c60_1_15.enc, fun n => (K60_1 Rc n).2.2.1, c60_1_15.ok, fun _ _ => rfl, fun _ => rfl, by kernel_rfl, fun n v _ h => (b60_1_15 Rc hR n v).trans h⟩, List.forall_mem_cons.2 ⟨⟨_, [], s60_1_21, c60_1_21.dec, c60_1_21.enc, fun n => (K60_1 Rc n).2.2.2.1, c60_1_21.ok, fun _ _ => rfl, fun _ => rfl, by kernel_rfl, fun n v _ h => (b60_1_21 Rc hR n v).trans h⟩, List.forall_mem_cons.2 ⟨⟨_, [], s60_1_33, c60_1_33.dec, c60_1_33.enc, fun n => (K60_1 Rc n).2.2.2.2, c60_1_33.ok, fun _ _ => rfl, fun _ => rfl, by kernel_rfl, fun n v _ h => (b60_1_33 Rc hR n v).trans h⟩, fun _ h => (nomatch h)⟩⟩⟩⟩⟩) (fun v _ h => ⟨fuel60_1 v, (e60_1 Rc hR _ v).trans h⟩) (fun _ => by kernel_rfl) (fun _ => by kernel_rfl) (fun _ _ => by kernel_rfl)
theorem okQ60_1 : ∀ n, FnOk Try.prog E 60 v60_1.enc (Q60_1 n) w60_1.enc
  | 0 => fun _ _ h => nomatch h
  | n + 1 => okD60_1 (Q60_1 n) (okQ60_1 n)
theorem ok60_1 : FnOk Try.prog E 60 v60_1.enc F60_1 w60_1.enc := fun v r h => okQ60_1 (depth60_1 v) v r h
/- slices.stableCmpFunc[int] -/
abbrev A51_0 : Type := Int × (List (Int × (List (Int × Bool)) × List Int)) × List Int × List Int
abbrev R51_0 : Type := (List (Int × (List (Int × Bool)) × List Int)) × List Int × List Int
def v51_0 : Pk G (Int × (List (Int × (List (Int × Bool)) × List Int)) × List Int × List Int) := (pk (Sh.snd (Sh.cons (Sh.osl 0) (Sh.fst (Sh.cons (Sh.int .i64) (Sh.snd (Sh.cons (Sh.snd (Sh.fn (.func 30) Sh.nil (Sh.snd (Sh.cons (Sh.ptr 1 0) (Sh.snd (Sh.cons (Sh.ptr 3 0) Sh.nil)))))) Sh.nil)))))) (Sh.hfix 3 47 (Sh.fst (Sh.cons (Sh.ros 57) Sh.nil)) (Sh.snd (Sh.hfix 1 55 (Sh.snd (Sh.cons (Sh.osl 2) Sh.nil)) (Sh.hrow 2 51 (Sh.fst (Sh.hrow 0 3 Sh.hnil)))))))
def w51_0 : Wk G ((List (Int × (List (Int × Bool)) × List Int)) × List Int × List Int) := (Wk.one [] (Pk.snd (pk Sh.nil (Sh.hfix 3 47 (Sh.fst (Sh.cons (Sh.ros 57) Sh.nil)) (Sh.snd (Sh.hfix 1 55 (Sh.snd (Sh.cons (Sh.osl 2) Sh.nil)) (Sh.hrow 0 3 (Sh.fst (Sh.hrow 2 51 Sh.hnil)))))))))
def c51_0_2 : Pk G ((Int × Int × Int × Int) × (List (Int × (List (Int × Bool)) × List Int)) × List Int × List Int) := (pk (Sh.snd (Sh.cons (Sh.osl 0) (Sh.cons (Sh.int .i64) (Sh.snd (Sh.cons (Sh.snd (Sh.fn (.func 30) Sh.nil (Sh.snd (Sh.cons (Sh.ptr 1 0) (Sh.snd (Sh.cons (Sh.ptr 3 0) Sh.nil)))))) (Sh.cons (Sh.int .i64) (Sh.cons (Sh.int .i64) (Sh.fst (Sh.cons (Sh.int .i64) Sh.nil))))))))) (Sh.hfix 3 47 (Sh.fst (Sh.cons (Sh.ros 57) Sh.nil)) (Sh.snd (Sh.hfix 1 55 (Sh.snd (Sh.cons (Sh.osl 2) Sh.nil)) (Sh.hrow 0 3 (Sh.fst (Sh.hrow 2 51 Sh.hnil)))))))
def c51_0_7 : Pk G ((Int × Int) × (List (Int × (List (Int × Bool)) × List Int)) × List Int × List Int) := (pk (Sh.snd (Sh.cons (Sh.osl 0) (Sh.cons (Sh.int .i64) (Sh.snd (Sh.cons (Sh.snd (Sh.fn (.func 30) Sh.nil (Sh.snd (Sh.cons (Sh.ptr 1 0) (Sh.snd (Sh.cons (Sh.ptr 3 0) Sh.nil)))))) (Sh.fst (Sh.cons (Sh.int .i64) Sh.nil))))))) (Sh.hfix 3 47 (Sh.fst (Sh.cons (Sh.ros 57) Sh.nil)) (Sh.snd (Sh.hfix 1 55 (Sh.snd (Sh.cons (Sh.osl 2) Sh.nil)) (Sh.hrow 0 3 (Sh.fst (Sh.hrow 2 51 Sh.hnil)))))))
def c51_0_9 : Pk G ((Int × Int × Int × Int) × (List (Int × (List (Int × Bool)) × List Int)) × List Int × List Int) := (pk (Sh.snd (Sh.cons (Sh.osl 0) (Sh.cons (Sh.int .i64) (Sh.snd (Sh.cons (Sh.snd (Sh.fn (.func 30) Sh.nil (Sh.snd (Sh.cons (Sh.ptr 1 0) (Sh.snd (Sh.cons (Sh.ptr 3 0) Sh.nil)))))) (Sh.cons (Sh.int .i64) (Sh.cons (Sh.int .i64) (Sh.fst (Sh.cons (Sh.int .i64) Sh.nil))))))))) (Sh.hfix 3 47 (Sh.fst (Sh.cons (Sh.ros 57) Sh.nil)) (Sh.snd (Sh.hfix 1 55 (Sh.snd (Sh.cons (Sh.osl 2) Sh.nil)) (Sh.hrow 0 3 (Sh.fst (Sh.hrow 2 51 Sh.hnil)))))))
def B51_0_2 (K : (((Int × Int × Int × Int) × (List (Int × (List (Int × Bool)) × List Int)) × List Int × List Int) → Option ((List (Int × (List (Int × Bool)) × List Int)) × List Int × List Int)) × (((Int × Int) × (List (Int × (List (Int × Bool)) × List Int)) × List Int × List Int) → Option ((List (Int × (List (Int × Bool)) × List Int)) × List Int × List Int)) × (((Int × Int × Int × Int) × (List (Int × (List (Int × Bool)) × List Int)) × List Int × List Int) → Option ((List (Int × (List (Int × Bool)) × List Int)) × List Int × List Int))) (v : (Int × Int × Int × Int) × (List (Int × (List (Int × Bool)) × List Int)) × List Int × List Int) : Option ((List (Int × (List (Int × Bool)) × List Int)) × List Int × List Int) :=
  bif (decide (v.1.2.2.2 ≤ v.1.1)) then
    (F59_0 (v.1.2.2, (v.2.1, (v.2.2.2, v.2.2.1)))).bind fun r919 =>
    let x920 : Int := (IntKind.wrap .i64 (v.1.2.2.2 + v.1.2.1))
    K.1 ((v.1.1, (v.1.2.1, (v.1.2.2.2, x920))), r919)
  else
    (F59_0 ((v.1.2.2.1, v.1.1), (v.2.1, (v.2.2.2, v.2.2.1)))).bind fun r921 =>
    K.2.1 ((v.1.1, v.1.2.1), r921)

def B51_0_7 (K : (((Int × Int × Int × Int) × (List (Int × (List (Int × Bool)) × List Int)) × List Int × List Int) → Option ((List (Int × (List (Int × Bool)) × List Int)) × List Int × List Int)) × (((Int × Int) × (List (Int × (List (Int × Bool)) × List Int)) × List Int × List Int) → Option ((List (Int × (List (Int × Bool)) × List Int)) × List Int × List Int)) × (((Int × Int × Int × Int) × (List (Int × (List (Int × Bool)) × List Int)) × List Int × List Int) → Option ((List (Int × (List (Int × Bool)) × List Int)) × List Int × List Int))) (v : (Int × Int) × (List (Int × (List (Int × Bool)) × List Int)) × List Int × List Int) : Option ((List (Int × (List (Int × Bool)) × List Int)) × List Int × List Int) :=
  bif (decide (v.1.2 < v.1.1)) then
    let x922 : Int := (IntKind.wrap .i64 ((2 : Int) * v.1.2))
    K.2.2 ((v.1.1, (v.1.2, ((0 : Int), x922))), v.2)
  else
    some (v.2)

def B51_0_9 (K : (((Int × Int × Int × Int) × (List (Int × (List (Int × Bool)) × List Int)) × List Int × List Int) → Option ((List (Int × (List (Int × Bool)) × List Int)) × List Int × List Int)) × (((Int × Int) × (List (Int × (List (Int × Bool)) × List Int)) × List Int × List Int) → Option ((List (Int × (List (Int × Bool)) × List Int)) × List Int × List Int)) × (((Int × Int × Int × Int) × (List (Int × (List (Int × Bool)) × List Int)) × List Int × List Int) → Option ((List (Int × (List (Int × Bool)) × List Int)) × List Int × List Int))) (v : (Int × Int × Int × Int) × (List (Int × (List (Int × Bool)) × List Int)) × List Int × List Int) : Option ((List (Int × (List (Int × Bool)) × List Int)) × List Int × List Int) :=
  bif (decide (v.1.2.2.2 ≤ v.1.1)) then
    let x923 : Int := (IntKind.wrap .i64 (v.1.2.2.1 + v.1.2.1))
    (F60_0 ((v.1.2.2.1, (x923, v.1.2.2.2)), (v.2.1, (v.2.2.2, v.2.2.1)))).bind fun r924 =>
    let x925 : Int := (IntKind.wrap .i64 ((2 : Int) * v.1.2.1))
    let x926 : Int := (IntKind.wrap .i64 (v.1.2.2.2 + x925))
    K.2.2 ((v.1.1, (v.1.2.1, (v.1.2.2.2, x926))), r924)
  else
    let x927 : Int := (IntKind.wrap .i64 (v.1.2.2.1 + v.1.2.1))
    bif (decide (x927 < v.1.1)) then
      (F60_0 ((v.1.2.2.1, (x927, v.1.1)), (v.2.1, (v.2.2.2, v.2.2.1)))).bind fun r928 =>
      let x929 : Int := (IntKind.wrap .i64 (v.1.2.1 * (2 : Int)))
      K.2.1 ((v.1.1, x929), r928)
    else
      let x930 : Int := (IntKind.wrap .i64 (v.1.2.1 * (2 : Int)))
      K.2.1 ((v.1.1, x930), v.2)

def E51_0 (K : (((Int × Int × Int × Int) × (List (Int × (List (Int × Bool)) × List Int)) × List Int × List Int) → Option ((List (Int × (List (Int × Bool)) × List Int)) × List Int × List Int)) × (((Int × Int) × (List (Int × (List (Int × Bool)) × List Int)) × List Int × List Int) → Option ((List (Int × (List (Int × Bool)) × List Int)) × List Int × List Int)) × (((Int × Int × Int × Int) × (List (Int × (List (Int × Bool)) × List Int)) × List Int × List Int) → Option ((List (Int × (List (Int × Bool)) × List Int)) × List Int × List Int))) (v : Int × (List (Int × (List (Int × Bool)) × List Int)) × List Int × List Int) : Option ((List (Int × (List (Int × Bool)) × List Int)) × List Int × List Int) :=
  K.1 ((v.1, ((20 : Int), ((0 : Int), (20 : Int)))), (v.2.1, (v.2.2.2, v.2.2.1)))

def K51_0 : Nat → (((Int × Int × Int × Int) × (List (Int × (List (Int × Bool)) × List Int)) × List Int × List Int) → Option ((List (Int × (List (Int × Bool)) × List Int)) × List Int × List Int)) × (((Int × Int) × (List (Int × (List (Int × Bool)) × List Int)) × List Int × List Int) → Option ((List (Int × (List (Int × Bool)) × List Int)) × List Int × List Int)) × (((Int × Int × Int × Int) × (List (Int × (List (Int × Bool)) × List Int)) × List Int × List Int) → Option ((List (Int × (List (Int × Bool)) × List Int)) × List Int × List Int))
  | 0 => (fun _ => none, fun _ => none, fun _ => none)
  | n + 1 => (B51_0_2 (K51_0 n), B51_0_7 (K51_0 n), B51_0_9 (K51_0 n))
def fuel51_0 (v : Int × (List (Int × (List (Int × Bool)) × List Int)) × List Int × List Int) : Nat := 1000
def F51_0 (v : Int × (List (Int × (List (Int × Bool)) × List Int)) × List Int × List Int) : Option ((List (Int × (List (Int × Bool)) × List Int)) × List Int × List Int) := E51_0 (K51_0 (fuel51_0 v)) v
noncomputable def k51_0 : List (Known Try.prog E) := [Known.of envOk [7, 1, 1, 130] [(.own 0 3), .keep, .keep, (.fn (.func 30) [] [(.ptr 1 0 55 [(.own 2 51)]), (.ptr 3 0 47 [(.ros 57)])])] v59_0 F59_0 w59_0 ok59_0, Known.of envOk [7, 1, 1, 1, 130] [(.own 0 3), .keep, .keep, .keep, (.fn (.func 30) [] [(.ptr 1 0 55 [(.own 2 51)]), (.ptr 3 0 47 [(.ros 57)])])] v60_0 F60_0 w60_0 ok60_0]
def s51_0_9 : List (Nat × Pat) := [(0, (.own 0 3)), (1, .keep), (2, (.fn (.func 30) [] [(.ptr 1 0 55 []), (.ptr 3 0 47 [])])), (6, .keep), (7, .keep), (8, .keep)]
def s51_0_7 : List (Nat × Pat) := [(0, (.own 0 3)), (1, .keep), (2, (.fn (.func 30) [] [(.ptr 1 0 55 []), (.ptr 3 0 47 [])])), (6, .keep)]
def s51_0_2 : List (Nat × Pat) := [(0, (.own 0 3)), (1, .keep), (2, (.fn (.func 30) [] [(.ptr 1 0 55 []), (.ptr 3 0 47 [])])), (6, .keep), (7, .keep), (8, .keep)]
noncomputable def L51_0 (n id : Nat) (st : St G) : Option ((List (Int × (List (Int × Bool)) × List Int)) × List Int × List Int) := match Nat.beq id 2 with | true => cutK Try.prog s51_0_2 [(.own 2 51), (.own 0 3), (.ptr 1 0 55 [(.own 2 51)]), (.ptr 3 0 47 [(.ros 57)])] c51_0_2.dec (K51_0 n).1 st | false => match Nat.beq id 7 with | true => cutK Try.prog s51_0_7 [(.own 2 51), (.own 0 3), (.ptr 1 0 55 [(.own 2 51)]), (.ptr 3 0 47 [(.ros 57)])] c51_0_7.dec (K51_0 n).2.1 st | false => match Nat.beq id 9 with | true => cutK Try.prog s51_0_9 [(.own 2 51), (.own 0 3), (.ptr 1 0 55 [(.own 2 51)]), (.ptr 3 0 47 [(.ros 57)])] c51_0_9.dec (K51_0 n).2.2 st | false => none
set_option maxRecDepth 100000 in
theorem e51_0 (n : Nat) (v : Int × (List (Int × (List (Int × Bool)) × List Int)) × List Int × List Int) : ev Try.prog E (oracle k51_0) Try.f51.ntmps (fun x => mem x [2, 7, 9]) (L51_0 n) (finF Try.prog E Try.f51.results.toList [[(.own 2 51), (.own 0 3), (.ptr 1 0 55 [(.own 2 51)]), (.ptr 3 0 47 [(.ros 57)])]] w51_0.alts) 4000 [.code (Try.f51.body.getD .skip)] (argSt (v51_0.enc v)) = E51_0 (K51_0 n) v := by kernel_rfl
set_option maxRecDepth 100000 in
theorem b51_0_2 (n : Nat) (v : (Int × Int × Int × Int) × (List (Int × (List (Int × Bool)) × List Int)) × List Int × List Int) : evCut Try.prog E (oracle k51_0) false 51 Try.f51.ntmps (fun x => mem x [2, 7, 9]) (L51_0 n) (finF Try.prog E Try.f51.results.toList [[(.own 2 51), (.own 0 3), (.ptr 1 0 55 [(.own 2 51)]), (.ptr 3 0 47 [(.ros 57)])]] w51_0.alts) 4000 (todoAt (Try.f51.body.getD .skip) 2) (cutSt s51_0_2 (c51_0_2.enc v)) = B51_0_2 (K51_0 n) v := by kernel_rfl
set_option maxRecDepth 100000 in
theorem b51_0_7 (n : Nat) (v : (Int × Int) × (List (Int × (List (Int × Bool)) × List Int)) × List Int × List Int) : evCut Try.prog E (oracle k51_0) false 51 Try.f51.ntmps (fun x => mem x [2, 7, 9]) (L51_0 n) (finF Try.prog E Try.f51.results.toList [[(.own 2 51), (.own 0 3), (.ptr 1 0 55 [(.own 2 51)]), (.ptr 3 0 47 [(.ros 57)])]] w51_0.alts) 4000 (todoAt (Try.f51.body.getD .skip) 7) (cutSt s51_0_7 (c51_0_7.enc v)) = B51_0_7 (K51_0 n) v := by kernel_rfl
set_option maxRecDepth 100000 in
theorem b51_0_9 (n : Nat) (v : (Int × Int × Int × Int) × (List (Int × (List (Int × Bool)) × List Int)) × List Int × List Int) : evCut Try.prog E (oracle k51_0) false 51 Try.f51.ntmps (fun x => mem x [2, 7, 9]) (L51_0 n) (finF Try.prog E Try.f51.results.toList [[(.own 2 51), (.own 0 3), (.ptr 1 0 55 [(.own 2 51)]), (.ptr 3 0 47 [(.ros 57)])]] w51_0.alts) 4000 (todoAt (Try.f51.body.getD .skip) 9) (cutSt s51_0_9 (c51_0_9.enc v)) = B51_0_9 (K51_0 n) v := by kernel_rfl
theorem ok51_0 : FnOk Try.prog E 51 v51_0.enc F51_0 w51_0.enc :=
  fn_known (fn := Try.f51) (c := (Try.f51.body.getD .skip)) Try.func51 (by kernel_rfl) rfl envOk (oracle_ok k51_0) mixed v51_0 F51_0 w51_0 [(.own 2 51), (.own 0 3), (.ptr 1 0 55 [(.own 2 51)]), (.ptr 3 0 47 [(.ros 57)])] [[(.own 2 51), (.own 0 3), (.ptr 1 0 55 [(.own 2 51)]), (.ptr 3 0 47 [(.ros 57)])]] (by kernel_rfl) [2, 7, 9] 4000 L51_0 (by kernel_rfl)
    (List.forall_mem_cons.2 ⟨⟨_, [(.own 2 51), (.own 0 3), (.ptr 1 0 55 [(.own 2 51)]), (.ptr 3 0 47 [(.ros 57)])], s51_0_2, c51_0_2.dec, c51_0_2.enc, fun n => (K51_0 n).1, c51_0_2.ok, fun _ _ => rfl, fun _ => rfl, by kernel_rfl, fun n v _ h => (b51_0_2 n v).trans h⟩, List.forall_mem_cons.2 ⟨⟨_, [(.own 2 51), (.own 0 3), (.ptr 1 0 55 [(.own 2 51)]), (.ptr 3 0 47 [(.ros 57)])], s51_0_7, c51_0_7.dec, c51_0_7.enc, fun n => (K51_0 n).2.1, c51_0_7.ok, fun _ _ => rfl, fun _ => rfl, by kernel_rfl, fun n v _ h => (b51_0_7 n v).trans h⟩, List.forall_mem_cons.2 ⟨⟨_, [(.own 2 51), (.own 0 3), (.ptr 1 0 55 [(.own 2 51)]), (.ptr 3 0 47 [(.ros 57)])], s51_0_9, c51_0_9.dec, c51_0_9.enc, fun n => (K51_0 n).2.2, c51_0_9.ok, fun _ _ => rfl, fun _ => rfl, by kernel_rfl, fun n v _ h => (b51_0_9 n v).trans h⟩, fun _ h => (nomatch h)⟩⟩⟩) (fun v _ h => ⟨fuel51_0 v, (e51_0 _ v).trans h⟩) (fun _ => by kernel_rfl) (fun _ => by kernel_rfl) (fun _ _ => by kernel_rfl)
/- slices.SortStableFunc[[]int,int] -/
abbrev A29_0 : Type := (List (Int × (List (Int × Bool)) × List Int)) × List Int × List Int
abbrev R29_0 : Type := (List (Int × (List (Int × Bool)) × List Int)) × List Int × List Int
def v29_0 : Pk G ((List (Int × (List (Int × Bool)) × List Int)) × List Int × List Int) := (Pk.snd (pk (Sh.snd (Sh.cons (Sh.osl 0) (Sh.snd (Sh.cons (Sh.snd (Sh.fn (.func 30) Sh.nil (Sh.snd (Sh.cons (Sh.ptr 1 0) (Sh.snd (Sh.cons (Sh.ptr 3 0) Sh.nil)))))) Sh.nil)))) (Sh.hfix 3 47 (Sh.fst (Sh.cons (Sh.ros 57) Sh.nil)) (Sh.snd (Sh.hfix 1 55 (Sh.snd (Sh.cons (Sh.osl 2) Sh.nil)) (Sh.hrow 2 51 (Sh.fst (Sh.hrow 0 3 Sh.hnil))))))))
def w29_0 : Wk G ((List (Int × (List (Int × Bool)) × List Int)) × List Int × List Int) := (Wk.one [] (Pk.snd (pk Sh.nil (Sh.hfix 3 47 (Sh.fst (Sh.cons (Sh.ros 57) Sh.nil)) (Sh.snd (Sh.hfix 1 55 (Sh.snd (Sh.cons (Sh.osl 2) Sh.nil)) (Sh.hrow 0 3 (Sh.fst (Sh.hrow 2 51 Sh.hnil)))))))))
def F29_0 (v : (List (Int × (List (Int × Bool)) × List Int)) × List Int × List Int) : Option ((List (Int × (List (Int × Bool)) × List Int)) × List Int × List Int) :=
  (F51_0 (((v.2.2).length : Int), v)).bind fun r933 =>
  some (r933)

noncomputable def k29_0 : List (Known Try.prog E) := [Known.of envOk [7, 1, 130] [(.own 0 3), .keep, (.fn (.func 30) [] [(.ptr 1 0 55 [(.own 2 51)]), (.ptr 3 0 47 [(.ros 57)])])] v51_0 F51_0 w51_0 ok51_0]
noncomputable def L29_0 (n id : Nat) (st : St G) : Option ((List (Int × (List (Int × Bool)) × List Int)) × List Int × List Int) := none
set_option maxRecDepth 100000 in
theorem e29_0 (n : Nat) (v : (List (Int × (List (Int × Bool)) × List Int)) × List Int × List Int) : ev Try.prog E (oracle k29_0) Try.f29.ntmps (fun x => mem x []) (L29_0 n) (finF Try.prog E Try.f29.results.toList [[(.own 2 51), (.own 0 3), (.ptr 1 0 55 [(.own 2 51)]), (.ptr 3 0 47 [(.ros 57)])]] w29_0.alts) 4000 [.code (Try.f29.body.getD .skip)] (argSt (v29_0.enc v)) = F29_0 v := by kernel_rfl
theorem ok29_0 : FnOk Try.prog E 29 v29_0.enc F29_0 w29_0.enc :=
  fn_known (fn := Try.f29) (c := (Try.f29.body.getD .skip)) Try.func29 (by kernel_rfl) rfl envOk (oracle_ok k29_0) mixed v29_0 F29_0 w29_0 [(.own 2 51), (.own 0 3), (.ptr 1 0 55 [(.own 2 51)]), (.ptr 3 0 47 [(.ros 57)])] [[(.own 2 51), (.own 0 3), (.ptr 1 0 55 [(.own 2 51)]), (.ptr 3 0 47 [(.ros 57)])]] (by kernel_rfl) [] 4000 L29_0 (by kernel_rfl)
    (fun _ h => nomatch h) (fun v _ h => ⟨0, (e29_0 _ v).trans h⟩) (fun _ => by kernel_rfl) (fun _ => by kernel_rfl) (fun _ _ => by kernel_rfl)
/- chicane/board.Rank -/
abbrev A15_0 : Type := List (Int × (List (Int × Bool)) × List Int)
abbrev R15_0 : Type := List Int
def v15_0 : Pk G (List (Int × (List (Int × Bool)) × List Int)) := (Pk.fst (pk (Sh.fst (Sh.cons (Sh.ros 57) Sh.nil)) Sh.hnil))
def w15_0 : Wk G (List Int) := (Wk.one [(.own 0 3)] (Pk.snd (pk (Sh.snd (Sh.cons (Sh.osl 0) Sh.nil)) (Sh.fst (Sh.hrow 0 3 Sh.hnil)))))
def c15_0_4 : Pk G (((List (Int × (List (Int × Bool)) × List Int)) × Int × Int) × List Int × List Int × List (Int × (List (Int × Bool)) × List Int)) := (pk (Sh.snd (Sh.cons (Sh.ptr 0 0) (Sh.snd (Sh.cons (Sh.osl 1) (Sh.snd (Sh.cons (Sh.ptr 2 0) (Sh.cons (Sh.ros 57) (Sh.cons (Sh.int .i64) (Sh.fst (Sh.cons (Sh.int .i64) Sh.nil)))))))))) (Sh.snd (Sh.hfix 2 55 (Sh.snd (Sh.cons (Sh.osl 3) Sh.nil)) (Sh.hrow 3 51 (Sh.hrow 1 3 (Sh.fst (Sh.hfix 0 47 (Sh.fst (Sh.cons (Sh.ros 57) Sh.nil)) Sh.hnil)))))))
def B15_0_4 (K : ((((List (Int × (List (Int × Bool)) × List Int)) × Int × Int) × List Int × List Int × List (Int × (List (Int × Bool)) × List Int)) → Option (List Int))) (v : ((List (Int × (List (Int × Bool)) × List Int)) × Int × Int) × List Int × List Int × List (Int × (List (Int × Bool)) × List Int)) : Option (List Int) :=
  bif (decide (v.1.2.2 < v.1.2.1)) then
    (rdx v.1.1 v.1.2.2).bind fun (x945 : Int × (List (Int × Bool)) × List Int) =>
    (F14_0 x945).bind fun r946 =>
    (idx v.1.2.2 (v.2.1).length).bind fun (x947 : Nat) =>
    ((v.2.1)[x947]?).bind fun _ =>
    let x949 : List Int := (v.2.1).set x947 (r946.1)
    bif r946.2 then
      (chk (decide (((v.2.2.1).length + (([v.1.2.2] : List Int)).length) * 8 ≤ 140737488355328))).bind fun _ =>
      let x950 : List Int := (v.2.2.1 ++ ([v.1.2.2] : List Int))
      let x951 : Int := (IntKind.wrap .i64 (v.1.2.2 + (1 : Int)))
      K ((v.1.1, (v.1.2.1, x951)), (x949, (x950, v.2.2.2)))
    else
      let x952 : Int := (IntKind.wrap .i64 (v.1.2.2 + (1 : Int)))
      K ((v.1.1, (v.1.2.1, x952)), (x949, v.2.2))
  else
    (F29_0 (v.2.2.2, (v.2.1, v.2.2.1))).bind fun r953 =>
    some (r953.2.1)

def E15_0 (K : ((((List (Int × (List (Int × Bool)) × List Int)) × Int × Int) × List Int × List Int × List (Int × (List (Int × Bool)) × List Int)) → Option (List Int))) (v : List (Int × (List (Int × Bool)) × List Int)) : Option (List Int) :=
  (chk (decide (0 ≤ ((v).length : Int) ∧ ((v).length : Int) ≤ ((v).length : Int) ∧ ((v).length : Int) * 8 ≤ 140737488355328 ∧ ((v).length : Int) ≤ 9223372036854775807))).bind fun _ =>
  K ((v, (((v).length : Int), (0 : Int))), ((List.replicate (((v).length : Int)).toNat ((0 : Int) : Int)), (([] : List Int), v)))

def K15_0 : Nat → ((((List (Int × (List (Int × Bool)) × List Int)) × Int × Int) × List Int × List Int × List (Int × (List (Int × Bool)) × List Int)) → Option (List Int))
  | 0 => (fun _ => none)
  | n + 1 => (B15_0_4 (K15_0 n))
def fuel15_0 (v : List (Int × (List (Int × Bool)) × List Int)) : Nat := 1000
def F15_0 (v : List (Int × (List (Int × Bool)) × List Int)) : Option (List Int) := E15_0 (K15_0 (fuel15_0 v)) v
noncomputable def k15_0 : List (Known Try.prog E) := [Known.of envOk [9] [(.agg [.keep, (.ros 59), (.ros 51)])] v14_0 F14_0 w14_0 ok14_0, Known.of envOk [7, 130] [(.own 0 3), (.fn (.func 30) [] [(.ptr 1 0 55 [(.own 2 51)]), (.ptr 3 0 47 [(.ros 57)])])] v29_0 F29_0 w29_0 ok29_0]
def s15_0_4 : List (Nat × Pat) := [(1, (.ptr 0 0 47 [(.ros 57)])), (3, (.own 1 3)), (4, (.ptr 2 0 55 [(.own 3 51)])), (12, (.ros 57)), (13, .keep), (14, .keep)]
noncomputable def L15_0 (n id : Nat) (st : St G) : Option (List Int) := match Nat.beq id 4 with | true => cutK Try.prog s15_0_4 [] c15_0_4.dec (K15_0 n) st | false => none
set_option maxRecDepth 100000 in
theorem e15_0 (n : Nat) (v : List (Int × (List (Int × Bool)) × List Int)) : ev Try.prog E (oracle k15_0) Try.f15.ntmps (fun x => mem x [4]) (L15_0 n) (finF Try.prog E Try.f15.results.toList [[]] w15_0.alts) 4000 [.code (Try.f15.body.getD .skip)] (argSt (v15_0.enc v)) = E15_0 (K15_0 n) v := by kernel_rfl
set_option maxRecDepth 100000 in
theorem b15_0_4 (n : Nat) (v : ((List (Int × (List (Int × Bool)) × List Int)) × Int × Int) × List Int × List Int × List (Int × (List (Int × Bool)) × List Int)) : evCut Try.prog E (oracle k15_0) false 15 Try.f15.ntmps (fun x => mem x [4]) (L15_0 n) (finF Try.prog E Try.f15.results.toList [[]] w15_0.alts) 4000 (todoAt (Try.f15.body.getD .skip) 4) (cutSt s15_0_4 (c15_0_4.enc v)) = B15_0_4 (K15_0 n) v := by kernel_rfl
theorem ok15_0 : FnOk Try.prog E 15 v15_0.enc F15_0 w15_0.enc :=
  fn_known (fn := Try.f15) (c := (Try.f15.body.getD .skip)) Try.func15 (by kernel_rfl) rfl envOk (oracle_ok k15_0) mixed v15_0 F15_0 w15_0 [] [[]] (by kernel_rfl) [4] 4000 L15_0 (by kernel_rfl)
    (List.forall_mem_cons.2 ⟨⟨_, [], s15_0_4, c15_0_4.dec, c15_0_4.enc, fun n => (K15_0 n), c15_0_4.ok, fun _ _ => rfl, fun _ => rfl, by kernel_rfl, fun n v _ h => (b15_0_4 n v).trans h⟩, fun _ h => (nomatch h)⟩) (fun v _ h => ⟨fuel15_0 v, (e15_0 _ v).trans h⟩) (fun _ => by kernel_rfl) (fun _ => by kernel_rfl) (fun _ _ => by kernel_rfl)
/- chicane/board.Fastest -/
abbrev A13_0 : Type := List (Int × (List (Int × Bool)) × List Int)
abbrev R13_0 : Type := Int × Int
def v13_0 : Pk G (List (Int × (List (Int × Bool)) × List Int)) := (Pk.fst (pk (Sh.fst (Sh.cons (Sh.ros 57) Sh.nil)) Sh.hnil))
def w13_0 : Wk G (Int × Int) := (Wk.one [.keep, .keep] (Pk.fst (pk (Sh.cons (Sh.int .i64) (Sh.fst (Sh.cons (Sh.int .i64) Sh.nil))) Sh.hnil)))
def c13_0_2 : Pk G (((List (Int × (List (Int × Bool)) × List Int)) × Int × Int) × List Int) := (pk (Sh.cons (Sh.ros 57) (Sh.snd (Sh.cons (Sh.osl 0) (Sh.cons (Sh.int .i64) (Sh.fst (Sh.cons (Sh.int .i64) Sh.nil)))))) (Sh.fst (Sh.hrow 0 3 Sh.hnil)))
def B13_0_2 (K : ((((List (Int × (List (Int × Bool)) × List Int)) × Int × Int) × List Int) → Option (Int × Int))) (v : ((List (Int × (List (Int × Bool)) × List Int)) × Int × Int) × List Int) : Option (Int × Int) :=
  bif (decide (v.1.2.2 < v.1.2.1)) then
    (idx v.1.2.2 (v.2).length).bind fun (x967 : Nat) =>
    ((v.2)[x967]?).bind fun (x968 : Int) =>
    (rdx v.1.1 x968).bind fun (x969 : Int × (List (Int × Bool)) × List Int) =>
    (F28_0 x969.2.1).bind fun r970 =>
    some (x968, r970.1)
  else
    some ((-1 : Int), (-1 : Int))

def E13_0 (K : ((((List (Int × (List (Int × Bool)) × List Int)) × Int × Int) × List Int) → Option (Int × Int))) (v : List (Int × (List (Int × Bool)) × List Int)) : Option (Int × Int) :=
  (F15_0 v).bind fun r966 =>
  K ((v, (((r966).length : Int), (0 : Int))), r966)

def K13_0 : Nat → ((((List (Int × (List (Int × Bool)) × List Int)) × Int × Int) × List Int) → Option (Int × Int))
  | 0 => (fun _ => none)
  | n + 1 => (B13_0_2 (K13_0 n))
def fuel13_0 (v : List (Int × (List (Int × Bool)) × List Int)) : Nat := 1000
def F13_0 (v : List (Int × (List (Int × Bool)) × List Int)) : Option (Int × Int) := E13_0 (K13_0 (fuel13_0 v)) v
noncomputable def k13_0 : List (Known Try.prog E) := [Known.of envOk [7] [(.ros 57)] v15_0 F15_0 w15_0 ok15_0, Known.of envOk [7] [(.ros 59)] v28_0 F28_0 w28_0 ok28_0]
def s13_0_2 : List (Nat × Pat) := [(0, (.ros 57)), (9, (.own 0 3)), (10, .keep), (11, .keep)]
noncomputable def L13_0 (n id : Nat) (st : St G) : Option (Int × Int) := match Nat.beq id 2 with | true => cutK Try.prog s13_0_2 [] c13_0_2.dec (K13_0 n) st | false => none
set_option maxRecDepth 100000 in
theorem e13_0 (n : Nat) (v : List (Int × (List (Int × Bool)) × List Int)) : ev Try.prog E (oracle k13_0) Try.f13.ntmps (fun x => mem x [2]) (L13_0 n) (finF Try.prog E Try.f13.results.toList [[]] w13_0.alts) 4000 [.code (Try.f13.body.getD .skip)] (argSt (v13_0.enc v)) = E13_0 (K13_0 n) v := by kernel_rfl
set_option maxRecDepth 100000 in
theorem b13_0_2 (n : Nat) (v : ((List (Int × (List (Int × Bool)) × List Int)) × Int × Int) × List Int) : evCut Try.prog E (oracle k13_0) false 13 Try.f13.ntmps (fun x => mem x [2]) (L13_0 n) (finF Try.prog E Try.f13.results.toList [[]] w13_0.alts) 4000 (todoAt (Try.f13.body.getD .skip) 2) (cutSt s13_0_2 (c13_0_2.enc v)) = B13_0_2 (K13_0 n) v := by kernel_rfl
theorem ok13_0 : FnOk Try.prog E 13 v13_0.enc F13_0 w13_0.enc :=
  fn_known (fn := Try.f13) (c := (Try.f13.body.getD .skip)) Try.func13 (by kernel_rfl) rfl envOk (oracle_ok k13_0) mixed v13_0 F13_0 w13_0 [] [[]] (by kernel_rfl) [2] 4000 L13_0 (by kernel_rfl)
    (List.forall_mem_cons.2 ⟨⟨_, [], s13_0_2, c13_0_2.dec, c13_0_2.enc, fun n => (K13_0 n), c13_0_2.ok, fun _ _ => rfl, fun _ => rfl, by kernel_rfl, fun n v _ h => (b13_0_2 n v).trans h⟩, fun _ h => (nomatch h)⟩) (fun v _ h => ⟨fuel13_0 v, (e13_0 _ v).trans h⟩) (fun _ => by kernel_rfl) (fun _ => by kernel_rfl) (fun _ _ => by kernel_rfl)
/- chicane/board.Gaps -/
abbrev A16_0 : Type := List (Int × (List (Int × Bool)) × List Int)
abbrev R16_0 : Type := List Int
def v16_0 : Pk G (List (Int × (List (Int × Bool)) × List Int)) := (Pk.fst (pk (Sh.fst (Sh.cons (Sh.ros 57) Sh.nil)) Sh.hnil))
def w16_0 : Wk G (List Int) := (Wk.one [(.own 0 51)] (Pk.snd (pk (Sh.snd (Sh.cons (Sh.osl 0) Sh.nil)) (Sh.fst (Sh.hrow 0 51 Sh.hnil)))))
def c16_0_4 : Pk G (((List (Int × (List (Int × Bool)) × List Int)) × Int × Int × Int) × List Int × List Int) := (pk (Sh.cons (Sh.ros 57) (Sh.snd (Sh.cons (Sh.osl 0) (Sh.cons (Sh.int .i64) (Sh.snd (Sh.cons (Sh.osl 1) (Sh.cons (Sh.int .i64) (Sh.fst (Sh.cons (Sh.int .i64) Sh.nil))))))))) (Sh.hrow 1 3 (Sh.fst (Sh.hrow 0 51 Sh.hnil))))
def B16_0_4 (K : ((((List (Int × (List (Int × Bool)) × List Int)) × Int × Int × Int) × List Int × List Int) → Option (List Int))) (v : ((List (Int × (List (Int × Bool)) × List Int)) × Int × Int × Int) × List Int × List Int) : Option (List Int) :=
  bif (decide (v.1.2.2.2 < v.1.2.2.1)) then
    (idx v.1.2.2.2 (v.2.1).length).bind fun (x1002 : Nat) =>
    ((v.2.1)[x1002]?).bind fun (x1003 : Int) =>
    (rdx v.1.1 x1003).bind fun (x1004 : Int × (List (Int × Bool)) × List Int) =>
    (F14_0 x1004).bind fun r1005 =>
    bif (v.1.2.2.2 == (0 : Int)) then
      let x1006 : Int := (IntKind.wrap .i64 (r1005.1 - r1005.1))
      (chk (decide (((v.2.2).length + (([x1006] : List Int)).length) * 8 ≤ 140737488355328))).bind fun _ =>
      let x1007 : List Int := (v.2.2 ++ ([x1006] : List Int))
      let x1008 : Int := (IntKind.wrap .i64 (v.1.2.2.2 + (1 : Int)))
      K ((v.1.1, (r1005.1, (v.1.2.2.1, x1008))), (v.2.1, x1007))
    else
      let x1009 : Int := (IntKind.wrap .i64 (r1005.1 - v.1.2.1))
      (chk (decide (((v.2.2).length + (([x1009] : List Int)).length) * 8 ≤ 140737488355328))).bind fun _ =>
      let x1010 : List Int := (v.2.2 ++ ([x1009] : List Int))
      let x1011 : Int := (IntKind.wrap .i64 (v.1.2.2.2 + (1 : Int)))
      K ((v.1.1, (v.1.2.1, (v.1.2.2.1, x1011))), (v.2.1, x1010))
  else
    some (v.2.2)

def E16_0 (K : ((((List (Int × (List (Int × Bool)) × List Int)) × Int × Int × Int) × List Int × List Int) → Option (List Int))) (v : List (Int × (List (Int × Bool)) × List Int)) : Option (List Int) :=
  (F15_0 v).bind fun r1001 =>
  K ((v, ((0 : Int), (((r1001).length : Int), (0 : Int)))), (r1001, ([] : List Int)))

def K16_0 : Nat → ((((List (Int × (List (Int × Bool)) × List Int)) × Int × Int × Int) × List Int × List Int) → Option (List Int))
  | 0 => (fun _ => none)
  | n + 1 => (B16_0_4 (K16_0 n))
def fuel16_0 (v : List (Int × (List (Int × Bool)) × List Int)) : Nat := 1000
def F16_0 (v : List (Int × (List (Int × Bool)) × List Int)) : Option (List Int) := E16_0 (K16_0 (fuel16_0 v)) v
noncomputable def k16_0 : List (Known Try.prog E) := [Known.of envOk [7] [(.ros 57)] v15_0 F15_0 w15_0 ok15_0, Known.of envOk [9] [(.agg [.keep, (.ros 59), (.ros 51)])] v14_0 F14_0 w14_0 ok14_0]
def s16_0_4 : List (Nat × Pat) := [(0, (.ros 57)), (3, (.own 0 51)), (4, .keep), (10, (.own 1 3)), (11, .keep), (12, .keep)]
noncomputable def L16_0 (n id : Nat) (st : St G) : Option (List Int) := match Nat.beq id 4 with | true => cutK Try.prog s16_0_4 [] c16_0_4.dec (K16_0 n) st | false => none
set_option maxRecDepth 100000 in
theorem e16_0 (n : Nat) (v : List (Int × (List (Int × Bool)) × List Int)) : ev Try.prog E (oracle k16_0) Try.f16.ntmps (fun x => mem x [4]) (L16_0 n) (finF Try.prog E Try.f16.results.toList [[]] w16_0.alts) 4000 [.code (Try.f16.body.getD .skip)] (argSt (v16_0.enc v)) = E16_0 (K16_0 n) v := by kernel_rfl
set_option maxRecDepth 100000 in
theorem b16_0_4 (n : Nat) (v : ((List (Int × (List (Int × Bool)) × List Int)) × Int × Int × Int) × List Int × List Int) : evCut Try.prog E (oracle k16_0) false 16 Try.f16.ntmps (fun x => mem x [4]) (L16_0 n) (finF Try.prog E Try.f16.results.toList [[]] w16_0.alts) 4000 (todoAt (Try.f16.body.getD .skip) 4) (cutSt s16_0_4 (c16_0_4.enc v)) = B16_0_4 (K16_0 n) v := by kernel_rfl
theorem ok16_0 : FnOk Try.prog E 16 v16_0.enc F16_0 w16_0.enc :=
  fn_known (fn := Try.f16) (c := (Try.f16.body.getD .skip)) Try.func16 (by kernel_rfl) rfl envOk (oracle_ok k16_0) mixed v16_0 F16_0 w16_0 [] [[]] (by kernel_rfl) [4] 4000 L16_0 (by kernel_rfl)
    (List.forall_mem_cons.2 ⟨⟨_, [], s16_0_4, c16_0_4.dec, c16_0_4.enc, fun n => (K16_0 n), c16_0_4.ok, fun _ _ => rfl, fun _ => rfl, by kernel_rfl, fun n v _ h => (b16_0_4 n v).trans h⟩, fun _ h => (nomatch h)⟩) (fun v _ h => ⟨fuel16_0 v, (e16_0 _ v).trans h⟩) (fun _ => by kernel_rfl) (fun _ => by kernel_rfl) (fun _ _ => by kernel_rfl)
/- slices.Clone[[]chicane/api.Time,chicane/api.Time] -/
abbrev A35_n : Type := Unit
abbrev R35_n : Type := List Int
def v35_n : Pk G Unit := (Pk.snd (pk (Sh.snd (Sh.cons Sh.nilsl Sh.nil)) Sh.hnil))
def w35_n : Wk G (List Int) := (Wk.one [(.own 0 51)] (Pk.snd (pk (Sh.snd (Sh.cons (Sh.osl 0) Sh.nil)) (Sh.fst (Sh.hrow 0 51 Sh.hnil)))))
def F35_n (v : Unit) : Option (List Int) :=
  some ([] : List Int)

noncomputable def k35_n : List (Known Try.prog E) := []
noncomputable def L35_n (n id : Nat) (st : St G) : Option (List Int) := none
set_option maxRecDepth 100000 in
theorem e35_n (n : Nat) (v : Unit) : ev Try.prog E (oracle k35_n) Try.f35.ntmps (fun x => mem x []) (L35_n n) (finF Try.prog E Try.f35.results.toList [[]] w35_n.alts) 4000 [.code (Try.f35.body.getD .skip)] (argSt (v35_n.enc v)) = F35_n v := by kernel_rfl
theorem ok35_n : FnOk Try.prog E 35 v35_n.enc F35_n w35_n.enc :=
  fn_known (fn := Try.f35) (c := (Try.f35.body.getD .skip)) Try.func35 (by kernel_rfl) rfl envOk (oracle_ok k35_n) mixed v35_n F35_n w35_n [] [[]] (by kernel_rfl) [] 4000 L35_n (by kernel_rfl)
    (fun _ h => nomatch h) (fun v _ h => ⟨0, (e35_n _ v).trans h⟩) (fun _ => by kernel_rfl) (fun _ => by kernel_rfl) (fun _ _ => by kernel_rfl)
/- slices.Clone[[]chicane/api.Time,chicane/api.Time] -/
abbrev A35_r : Type := List Int
abbrev R35_r : Type := List Int
def v35_r : Pk G (List Int) := (Pk.fst (pk (Sh.fst (Sh.cons (Sh.rosn 51) Sh.nil)) Sh.hnil))
def w35_r : Wk G (List Int) := (Wk.one [(.own 0 51)] (Pk.snd (pk (Sh.snd (Sh.cons (Sh.osl 0) Sh.nil)) (Sh.fst (Sh.hrow 0 51 Sh.hnil)))))
def F35_r (v : List Int) : Option (List Int) :=
  (chk (decide (((([] : List Int)).length + (v).length) * 8 ≤ 140737488355328))).bind fun _ =>
  let x1029 : List Int := (([] : List Int) ++ v)
  some (x1029)

noncomputable def k35_r : List (Known Try.prog E) := []
noncomputable def L35_r (n id : Nat) (st : St G) : Option (List Int) := none
set_option maxRecDepth 100000 in
theorem e35_r (n : Nat) (v : List Int) : ev Try.prog E (oracle k35_r) Try.f35.ntmps (fun x => mem x []) (L35_r n) (finF Try.prog E Try.f35.results.toList [[]] w35_r.alts) 4000 [.code (Try.f35.body.getD .skip)] (argSt (v35_r.enc v)) = F35_r v := by kernel_rfl
theorem ok35_r : FnOk Try.prog E 35 v35_r.enc F35_r w35_r.enc :=
  fn_known (fn := Try.f35) (c := (Try.f35.body.getD .skip)) Try.func35 (by kernel_rfl) rfl envOk (oracle_ok k35_r) mixed v35_r F35_r w35_r [] [[]] (by kernel_rfl) [] 4000 L35_r (by kernel_rfl)
    (fun _ h => nomatch h) (fun v _ h => ⟨0, (e35_r _ v).trans h⟩) (fun _ => by kernel_rfl) (fun _ => by kernel_rfl) (fun _ _ => by kernel_rfl)
/- slices.Clone[[]chicane/api.Time,chicane/api.Time] -/
abbrev A35_0 : Type := List Int
abbrev R35_0 : Type := List Int
def v35_0 : Pk G (List Int) := (Pk.fst (pk (Sh.fst (Sh.cons (Sh.ros 51) Sh.nil)) Sh.hnil))
def w35_0 : Wk G (List Int) := (Wk.one [(.own 0 51)] (Pk.snd (pk (Sh.snd (Sh.cons (Sh.osl 0) Sh.nil)) (Sh.fst (Sh.hrow 0 51 Sh.hnil)))))
def F35_0 (v : List Int) : Option (List Int) := F35_r v
theorem on35_0 : FnOk Try.prog E 35 (fun _ : Unit => ([AV.nilsl], [])) F35_n w35_0.enc := ok35_n
theorem or35_0 : FnOk Try.prog E 35 (fun xs : List (G 51) => ([AV.rosn 51 xs], [])) F35_r w35_0.enc := ok35_r
theorem ok35_0 : FnOk Try.prog E 35 v35_0.enc F35_0 w35_0.enc := FnOk.split (e := 51) on35_0 or35_0 (fun _ h => (by kernel_rfl : F35_n () = F35_r []).trans h) (fun _ _ h => h)
/- chicane/board.Ideal -/
abbrev A18_0 : Type := (Int × (List (Int × Bool)) × List Int) × Int
abbrev R18_0 : Type := Int × Bool
def v18_0 : Pk G ((Int × (List (Int × Bool)) × List Int) × Int) := (Pk.fst (pk (Sh.cons (Sh.agg (Sh.cons (Sh.int .i64) (Sh.cons (Sh.ros 59) (Sh.fst (Sh.cons (Sh.ros 51) Sh.nil))))) (Sh.fst (Sh.cons (Sh.int .i64) Sh.nil))) Sh.hnil))
def w18_0 : Wk G (Int × Bool) := (Wk.one [.keep, .keep] (Pk.fst (pk (Sh.cons (Sh.int .i64) (Sh.fst (Sh.cons Sh.bool Sh.nil))) Sh.hnil)))
def c18_0_5 : Pk G ((Int × List Int × Int × Int) × List Int) := (pk (Sh.cons (Sh.int .i64) (Sh.snd (Sh.cons (Sh.osl 0) (Sh.cons (Sh.ros 51) (Sh.cons (Sh.int .i64) (Sh.fst (Sh.cons (Sh.int .i64) Sh.nil))))))) (Sh.fst (Sh.hrow 0 51 Sh.hnil)))
def c18_0_12 : Pk G ((Int × Int × Int) × List Int) := (pk (Sh.cons (Sh.int .i64) (Sh.snd (Sh.cons (Sh.osl 0) (Sh.cons (Sh.int .i64) (Sh.fst (Sh.cons (Sh.int .i64) Sh.nil)))))) (Sh.fst (Sh.hrow 0 51 Sh.hnil)))
def B18_0_5 (K : (((Int × List Int × Int × Int) × List Int) → Option (Int × Bool)) × (((Int × Int × Int) × List Int) → Option (Int × Bool))) (v : (Int × List Int × Int × Int) × List Int) : Option (Int × Bool) :=
  bif (decide (v.1.2.2.2 < v.1.2.2.1)) then
    (rdx v.1.2.1 v.1.2.2.2).bind fun (x1066 : Int) =>
    (chk (v.1.1 != 0)).bind fun _ =>
    let x1067 : Int := (Int.tmod v.1.2.2.2 v.1.1)
    (idx x1067 (v.2).length).bind fun (x1068 : Nat) =>
    ((v.2)[x1068]?).bind fun (x1069 : Int) =>
    let x1070 : Int := (if x1066 < x1069 then x1066 else x1069)
    ((v.2)[x1068]?).bind fun _ =>
    let x1072 : List Int := (v.2).set x1068 (x1070)
    let x1073 : Int := (IntKind.wrap .i64 (v.1.2.2.2 + (1 : Int)))
    K.1 ((v.1.1, (v.1.2.1, (v.1.2.2.1, x1073))), x1072)
  else
    K.2 (((0 : Int), (((v.2).length : Int), (0 : Int))), v.2)

def B18_0_12 (K : (((Int × List Int × Int × Int) × List Int) → Option (Int × Bool)) × (((Int × Int × Int) × List Int) → Option (Int × Bool))) (v : (Int × Int × Int) × List Int) : Option (Int × Bool) :=
  bif (decide (v.1.2.2 < v.1.2.1)) then
    (idx v.1.2.2 (v.2).length).bind fun (x1074 : Nat) =>
    ((v.2)[x1074]?).bind fun (x1075 : Int) =>
    let x1076 : Int := (IntKind.wrap .i64 (v.1.1 + x1075))
    let x1077 : Int := (IntKind.wrap .i64 (v.1.2.2 + (1 : Int)))
    K.2 ((x1076, (v.1.2.1, x1077)), v.2)
  else
    some (v.1.1, true)

def E18_0 (K : (((Int × List Int × Int × Int) × List Int) → Option (Int × Bool)) × (((Int × Int × Int) × List Int) → Option (Int × Bool))) (v : (Int × (List (Int × Bool)) × List Int) × Int) : Option (Int × Bool) :=
  bif (decide (v.2 < (1 : Int))) then
    some ((0 : Int), false)
  else
    bif (decide (v.2 > ((v.1.2.2).length : Int))) then
      some ((0 : Int), false)
    else
      (cutx v.1.2.2 (0 : Int) v.2).bind fun (x1063 : List Int) =>
      (F35_0 x1063).bind fun r1064 =>
      (cutx v.1.2.2 v.2 ((v.1.2.2).length : Int)).bind fun (x1065 : List Int) =>
      K.1 ((v.2, (x1065, (((x1065).length : Int), (0 : Int)))), r1064)

def K18_0 : Nat → (((Int × List Int × Int × Int) × List Int) → Option (Int × Bool)) × (((Int × Int × Int) × List Int) → Option (Int × Bool))
  | 0 => (fun _ => none, fun _ => none)
  | n + 1 => (B18_0_5 (K18_0 n), B18_0_12 (K18_0 n))
def fuel18_0 (v : (Int × (List (Int × Bool)) × List Int) × Int) : Nat := 1000
def F18_0 (v : (Int × (List (Int × Bool)) × List Int) × Int) : Option (Int × Bool) := E18_0 (K18_0 (fuel18_0 v)) v
noncomputable def k18_0 : List (Known Try.prog E) := [Known.of envOk [7] [(.ros 51)] v35_0 F35_0 w35_0 ok35_0]
def s18_0_12 : List (Nat × Pat) := [(10, .keep), (50, (.own 0 51)), (51, .keep), (52, .keep)]
def s18_0_5 : List (Nat × Pat) := [(1, .keep), (6, (.own 0 51)), (30, (.ros 51)), (31, .keep), (32, .keep)]
noncomputable def L18_0 (n id : Nat) (st : St G) : Option (Int × Bool) := match Nat.beq id 5 with | true => cutK Try.prog s18_0_5 [] c18_0_5.dec (K18_0 n).1 st | false => match Nat.beq id 12 with | true => cutK Try.prog s18_0_12 [] c18_0_12.dec (K18_0 n).2 st | false => none
set_option maxRecDepth 100000 in
theorem e18_0 (n : Nat) (v : (Int × (List (Int × Bool)) × List Int) × Int) : ev Try.prog E (oracle k18_0) Try.f18.ntmps (fun x => mem x [5, 12]) (L18_0 n) (finF Try.prog E Try.f18.results.toList [[]] w18_0.alts) 4000 [.code (Try.f18.body.getD .skip)] (argSt (v18_0.enc v)) = E18_0 (K18_0 n) v := by kernel_rfl
set_option maxRecDepth 100000 in
theorem b18_0_5 (n : Nat) (v : (Int × List Int × Int × Int) × List Int) : evCut Try.prog E (oracle k18_0) false 18 Try.f18.ntmps (fun x => mem x [5, 12]) (L18_0 n) (finF Try.prog E Try.f18.results.toList [[]] w18_0.alts) 4000 (todoAt (Try.f18.body.getD .skip) 5) (cutSt s18_0_5 (c18_0_5.enc v)) = B18_0_5 (K18_0 n) v := by kernel_rfl
set_option maxRecDepth 100000 in
theorem b18_0_12 (n : Nat) (v : (Int × Int × Int) × List Int) : evCut Try.prog E (oracle k18_0) false 18 Try.f18.ntmps (fun x => mem x [5, 12]) (L18_0 n) (finF Try.prog E Try.f18.results.toList [[]] w18_0.alts) 4000 (todoAt (Try.f18.body.getD .skip) 12) (cutSt s18_0_12 (c18_0_12.enc v)) = B18_0_12 (K18_0 n) v := by kernel_rfl
theorem ok18_0 : FnOk Try.prog E 18 v18_0.enc F18_0 w18_0.enc :=
  fn_known (fn := Try.f18) (c := (Try.f18.body.getD .skip)) Try.func18 (by kernel_rfl) rfl envOk (oracle_ok k18_0) mixed v18_0 F18_0 w18_0 [] [[]] (by kernel_rfl) [5, 12] 4000 L18_0 (by kernel_rfl)
    (List.forall_mem_cons.2 ⟨⟨_, [], s18_0_5, c18_0_5.dec, c18_0_5.enc, fun n => (K18_0 n).1, c18_0_5.ok, fun _ _ => rfl, fun _ => rfl, by kernel_rfl, fun n v _ h => (b18_0_5 n v).trans h⟩, List.forall_mem_cons.2 ⟨⟨_, [], s18_0_12, c18_0_12.dec, c18_0_12.enc, fun n => (K18_0 n).2, c18_0_12.ok, fun _ _ => rfl, fun _ => rfl, by kernel_rfl, fun n v _ h => (b18_0_12 n v).trans h⟩, fun _ h => (nomatch h)⟩⟩) (fun v _ h => ⟨fuel18_0 v, (e18_0 _ v).trans h⟩) (fun _ => by kernel_rfl) (fun _ => by kernel_rfl) (fun _ _ => by kernel_rfl)
/- chicane/chicanelaw16.Ints -/
abbrev A34_0 : Type := List Int × List Int
abbrev R34_0 : Type := Bool
def v34_0 : Pk G (List Int × List Int) := (Pk.fst (pk (Sh.cons (Sh.ros 3) (Sh.fst (Sh.cons (Sh.ros 3) Sh.nil))) Sh.hnil))
def w34_0 : Wk G Bool := (Wk.one [.keep] (Pk.fst (pk (Sh.fst (Sh.cons Sh.bool Sh.nil)) Sh.hnil)))
def c34_0_4 : Pk G (List Int × List Int × Int) := (Pk.fst (pk (Sh.cons (Sh.ros 3) (Sh.cons (Sh.ros 3) (Sh.fst (Sh.cons (Sh.int .i64) Sh.nil)))) Sh.hnil))
def B34_0_4 (K : ((List Int × List Int × Int) → Option Bool)) (v : List Int × List Int × Int) : Option Bool :=
  bif (decide (v.2.2 < ((v.1).length : Int))) then
    (rdx v.1 v.2.2).bind fun (x1090 : Int) =>
    (rdx v.2.1 v.2.2).bind fun (x1091 : Int) =>
    bif (x1090 != x1091) then
      some (false)
    else
      let x1092 : Int := (IntKind.wrap .i64 (v.2.2 + (1 : Int)))
      K (v.1, (v.2.1, x1092))
  else
    some (true)

def E34_0 (K : ((List Int × List Int × Int) → Option Bool)) (v : List Int × List Int) : Option Bool :=
  bif (((v.1).length : Int) != ((v.2).length : Int)) then
    some (false)
  else
    K (v.1, (v.2, (0 : Int)))

def K34_0 : Nat → ((List Int × List Int × Int) → Option Bool)
  | 0 => (fun _ => none)
  | n + 1 => (B34_0_4 (K34_0 n))
def fuel34_0 (v : List Int × List Int) : Nat := 1000
def F34_0 (v : List Int × List Int) : Option Bool := E34_0 (K34_0 (fuel34_0 v)) v
noncomputable def k34_0 : List (Known Try.prog E) := []
def s34_0_4 : List (Nat × Pat) := [(0, (.ros 3)), (1, (.ros 3)), (5, .keep)]
noncomputable def L34_0 (n id : Nat) (st : St G) : Option Bool := match Nat.beq id 4 with | true => cutK Try.prog s34_0_4 [] c34_0_4.dec (K34_0 n) st | false => none
set_option maxRecDepth 100000 in
theorem e34_0 (n : Nat) (v : List Int × List Int) : ev Try.prog E (oracle k34_0) Try.f34.ntmps (fun x => mem x [4]) (L34_0 n) (finF Try.prog E Try.f34.results.toList [[]] w34_0.alts) 4000 [.code (Try.f34.body.getD .skip)] (argSt (v34_0.enc v)) = E34_0 (K34_0 n) v := by kernel_rfl
set_option maxRecDepth 100000 in
theorem b34_0_4 (n : Nat) (v : List Int × List Int × Int) : evCut Try.prog E (oracle k34_0) false 34 Try.f34.ntmps (fun x => mem x [4]) (L34_0 n) (finF Try.prog E Try.f34.results.toList [[]] w34_0.alts) 4000 (todoAt (Try.f34.body.getD .skip) 4) (cutSt s34_0_4 (c34_0_4.enc v)) = B34_0_4 (K34_0 n) v := by kernel_rfl
theorem ok34_0 : FnOk Try.prog E 34 v34_0.enc F34_0 w34_0.enc :=
  fn_known (fn := Try.f34) (c := (Try.f34.body.getD .skip)) Try.func34 (by kernel_rfl) rfl envOk (oracle_ok k34_0) mixed v34_0 F34_0 w34_0 [] [[]] (by kernel_rfl) [4] 4000 L34_0 (by kernel_rfl)
    (List.forall_mem_cons.2 ⟨⟨_, [], s34_0_4, c34_0_4.dec, c34_0_4.enc, fun n => (K34_0 n), c34_0_4.ok, fun _ _ => rfl, fun _ => rfl, by kernel_rfl, fun n v _ h => (b34_0_4 n v).trans h⟩, fun _ h => (nomatch h)⟩) (fun v _ h => ⟨fuel34_0 v, (e34_0 _ v).trans h⟩) (fun _ => by kernel_rfl) (fun _ => by kernel_rfl) (fun _ _ => by kernel_rfl)
/- chicane/chicanelaw43.awake -/
abbrev A17_0 : Type := Unit
abbrev R17_0 : Type := Bool
def v17_0 : Pk G Unit := (Pk.snd (pk Sh.nil Sh.hnil))
def w17_0 : Wk G Bool := (Wk.one [.keep] (Pk.fst (pk (Sh.fst (Sh.cons Sh.bool Sh.nil)) Sh.hnil)))
def F17_0 (v : Unit) : Option Bool :=
  (F18_0 (((1 : Int), (([((9 : Int), true)] : List (Int × Bool)), ([(3 : Int), (5 : Int), (4 : Int), (6 : Int)] : List Int))), (2 : Int))).bind fun r1107 =>
  (F13_0 ([((1 : Int), (([((9 : Int), true)] : List (Int × Bool)), ([(3 : Int), (5 : Int), (4 : Int), (6 : Int)] : List Int))), ((2 : Int), (([((5 : Int), false), ((7 : Int), true)] : List (Int × Bool)), ([] : List Int)))] : List (Int × (List (Int × Bool)) × List Int))).bind fun r1108 =>
  (F16_0 ([((1 : Int), (([((9 : Int), true)] : List (Int × Bool)), ([(3 : Int), (5 : Int), (4 : Int), (6 : Int)] : List Int))), ((2 : Int), (([((5 : Int), false), ((7 : Int), true)] : List (Int × Bool)), ([] : List Int)))] : List (Int × (List (Int × Bool)) × List Int))).bind fun r1109 =>
  bif (r1107.1 == (8 : Int)) then
    bif r1107.2 then
      (F15_0 ([((1 : Int), (([((9 : Int), true)] : List (Int × Bool)), ([(3 : Int), (5 : Int), (4 : Int), (6 : Int)] : List Int))), ((2 : Int), (([((5 : Int), false), ((7 : Int), true)] : List (Int × Bool)), ([] : List Int)))] : List (Int × (List (Int × Bool)) × List Int))).bind fun r1110 =>
      (F34_0 (r1110, ([(1 : Int), (0 : Int)] : List Int))).bind fun r1111 =>
      bif r1111 then
        bif (r1108.1 == (1 : Int)) then
          bif (r1108.2 == (1 : Int)) then
            bif (((r1109).length : Int) == (2 : Int)) then
              (idx (0 : Int) (r1109).length).bind fun (x1112 : Nat) =>
              ((r1109)[x1112]?).bind fun (x1113 : Int) =>
              bif (x1113 == (0 : Int)) then
                (idx (1 : Int) (r1109).length).bind fun (x1114 : Nat) =>
                ((r1109)[x1114]?).bind fun (x1115 : Int) =>
                some (x1115 == (2 : Int))
              else
                some (false)
            else
              some (false)
          else
            some (false)
        else
          some (false)
      else
        some (false)
    else
      some (false)
  else
    some (false)

noncomputable def k17_0 : List (Known Try.prog E) := [Known.of envOk [9, 1] [(.agg [.keep, (.ros 59), (.ros 51)]), .keep] v18_0 F18_0 w18_0 ok18_0, Known.of envOk [7] [(.ros 57)] v13_0 F13_0 w13_0 ok13_0, Known.of envOk [7] [(.ros 57)] v16_0 F16_0 w16_0 ok16_0, Known.of envOk [7] [(.ros 57)] v15_0 F15_0 w15_0 ok15_0, Known.of envOk [7, 7] [(.ros 3), (.ros 3)] v34_0 F34_0 w34_0 ok34_0]
noncomputable def L17_0 (n id : Nat) (st : St G) : Option Bool := none
set_option maxRecDepth 100000 in
theorem e17_0 (n : Nat) (v : Unit) : ev Try.prog E (oracle k17_0) Try.f17.ntmps (fun x => mem x []) (L17_0 n) (finF Try.prog E Try.f17.results.toList [[]] w17_0.alts) 4000 [.code (Try.f17.body.getD .skip)] (argSt (v17_0.enc v)) = F17_0 v := by kernel_rfl
theorem ok17_0 : FnOk Try.prog E 17 v17_0.enc F17_0 w17_0.enc :=
  fn_known (fn := Try.f17) (c := (Try.f17.body.getD .skip)) Try.func17 (by kernel_rfl) rfl envOk (oracle_ok k17_0) mixed v17_0 F17_0 w17_0 [] [[]] (by kernel_rfl) [] 4000 L17_0 (by kernel_rfl)
    (fun _ h => nomatch h) (fun v _ h => ⟨0, (e17_0 _ v).trans h⟩) (fun _ => by kernel_rfl) (fun _ => by kernel_rfl) (fun _ _ => by kernel_rfl)
/- chicane/chicanelaw43.BoardOrder -/
abbrev A6_0 : Type := List (Int × (List (Int × Bool)) × List Int)
abbrev R6_0 : Type := Bool
def v6_0 : Pk G (List (Int × (List (Int × Bool)) × List Int)) := (Pk.fst (pk (Sh.fst (Sh.cons (Sh.ros 57) Sh.nil)) Sh.hnil))
def w6_0 : Wk G Bool := (Wk.one [.keep] (Pk.fst (pk (Sh.fst (Sh.cons Sh.bool Sh.nil)) Sh.hnil)))
def c6_0_6 : Pk G ((List (Int × (List (Int × Bool)) × List Int)) × Int × Int × Int × Int) := (Pk.fst (pk (Sh.cons (Sh.ros 57) (Sh.cons (Sh.int .i64) (Sh.cons (Sh.int .i64) (Sh.cons (Sh.int .i64) (Sh.fst (Sh.cons (Sh.int .i64) Sh.nil)))))) Sh.hnil))
def c6_0_12 : Pk G ((List (Int × (List (Int × Bool)) × List Int)) × Int × Int × Int × Int × Int) := (Pk.fst (pk (Sh.cons (Sh.ros 57) (Sh.cons (Sh.int .i64) (Sh.cons (Sh.int .i64) (Sh.cons (Sh.int .i64) (Sh.cons (Sh.int .i64) (Sh.fst (Sh.cons (Sh.int .i64) Sh.nil))))))) Sh.hnil))
def c6_0_24 : Pk G ((Int × Int) × List Int × List Int) := (pk (Sh.cons (Sh.int .i64) (Sh.snd (Sh.cons (Sh.osl 0) (Sh.snd (Sh.cons (Sh.osl 1) (Sh.fst (Sh.cons (Sh.int .i64) Sh.nil))))))) (Sh.hrow 1 51 (Sh.fst (Sh.hrow 0 3 Sh.hnil))))
def c6_0_27 : Pk G ((Int × Int × Int) × List Int × List Int) := (pk (Sh.cons (Sh.int .i64) (Sh.snd (Sh.cons (Sh.osl 0) (Sh.snd (Sh.cons (Sh.osl 1) (Sh.cons (Sh.int .i64) (Sh.fst (Sh.cons (Sh.int .i64) Sh.nil)))))))) (Sh.hrow 1 51 (Sh.fst (Sh.hrow 0 3 Sh.hnil))))
def B6_0_6 (K : (((List (Int × (List (Int × Bool)) × List Int)) × Int × Int × Int × Int) → Option Bool) × (((List (Int × (List (Int × Bool)) × List Int)) × Int × Int × Int × Int × Int) → Option Bool) × (((Int × Int) × List Int × List Int) → Option Bool) × (((Int × Int × Int) × List Int × List Int) → Option Bool)) (v : (List (Int × (List (Int × Bool)) × List Int)) × Int × Int × Int × Int) : Option Bool :=
  bif (decide (v.2.2.2.2 < ((v.1).length : Int))) then
    (rdx v.1 v.2.2.2.2).bind fun (x1226 : Int × (List (Int × Bool)) × List Int) =>
    (F14_0 x1226).bind fun r1227 =>
    bif r1227.2 then
      let x1228 : Int := (IntKind.wrap .i64 (v.2.1 + (1 : Int)))
      K.2.1 (v.1, (x1228, (v.2.2.1, (v.2.2.2.1, (v.2.2.2.2, (0 : Int))))))
    else
      K.2.1 (v.1, (v.2.1, (v.2.2.1, (v.2.2.2.1, (v.2.2.2.2, (0 : Int))))))
  else
    (F15_0 v.1).bind fun r1229 =>
    (F16_0 v.1).bind fun r1230 =>
    bif (((r1229).length : Int) != v.2.1) then
      some (false)
    else
      bif (((r1230).length : Int) != v.2.1) then
        some (false)
      else
        K.2.2.1 ((v.2.1, (0 : Int)), (r1230, r1229))

def B6_0_12 (K : (((List (Int × (List (Int × Bool)) × List Int)) × Int × Int × Int × Int) → Option Bool) × (((List (Int × (List (Int × Bool)) × List Int)) × Int × Int × Int × Int × Int) → Option Bool) × (((Int × Int) × List Int × List Int) → Option Bool) × (((Int × Int × Int) × List Int × List Int) → Option Bool)) (v : (List (Int × (List (Int × Bool)) × List Int)) × Int × Int × Int × Int × Int) : Option Bool :=
  (rdx v.1 v.2.2.2.2.1).bind fun (x1231 : Int × (List (Int × Bool)) × List Int) =>
  bif (decide (v.2.2.2.2.2 < ((x1231.2.1).length : Int))) then
    (rdx v.1 v.2.2.2.2.1).bind fun (x1232 : Int × (List (Int × Bool)) × List Int) =>
    (rdx x1232.2.1 v.2.2.2.2.2).bind fun (x1233 : Int × Bool) =>
    bif (decide (x1233.1 < (0 : Int))) then
      some (true)
    else
      bif (decide (x1233.1 > (1152921504606846976 : Int))) then
        some (true)
      else
        bif x1233.2 then
          bif (decide (v.2.2.1 < (0 : Int))) then
            some (false)
          else
            bif (decide (v.2.2.1 ≥ ((v.1).length : Int))) then
              some (false)
            else
              bif (decide (v.2.2.2.1 < (0 : Int))) then
                some (false)
              else
                (rdx v.1 v.2.2.1).bind fun (x1234 : Int × (List (Int × Bool)) × List Int) =>
                bif (decide (v.2.2.2.1 ≥ ((x1234.2.1).length : Int))) then
                  some (false)
                else
                  (rdx v.1 v.2.2.1).bind fun (x1235 : Int × (List (Int × Bool)) × List Int) =>
                  (rdx x1235.2.1 v.2.2.2.1).bind fun (x1236 : Int × Bool) =>
                  bif (decide (x1236.1 > x1233.1)) then
                    some (false)
                  else
                    (rdx v.1 v.2.2.1).bind fun (x1237 : Int × (List (Int × Bool)) × List Int) =>
                    (rdx x1237.2.1 v.2.2.2.1).bind fun (x1238 : Int × Bool) =>
                    bif (!x1238.2) then
                      some (false)
                    else
                      let x1239 : Int := (IntKind.wrap .i64 (v.2.2.2.2.2 + (1 : Int)))
                      K.2.1 (v.1, (v.2.1, (v.2.2.1, (v.2.2.2.1, (v.2.2.2.2.1, x1239)))))
        else
          let x1240 : Int := (IntKind.wrap .i64 (v.2.2.2.2.2 + (1 : Int)))
          K.2.1 (v.1, (v.2.1, (v.2.2.1, (v.2.2.2.1, (v.2.2.2.2.1, x1240)))))
  else
    let x1241 : Int := (IntKind.wrap .i64 (v.2.2.2.2.1 + (1 : Int)))
    K.1 (v.1, (v.2.1, (v.2.2.1, (v.2.2.2.1, x1241))))

def B6_0_24 (K : (((List (Int × (List (Int × Bool)) × List Int)) × Int × Int × Int × Int) → Option Bool) × (((List (Int × (List (Int × Bool)) × List Int)) × Int × Int × Int × Int × Int) → Option Bool) × (((Int × Int) × List Int × List Int) → Option Bool) × (((Int × Int × Int) × List Int × List Int) → Option Bool)) (v : (Int × Int) × List Int × List Int) : Option Bool :=
  bif (decide (v.1.2 < v.1.1)) then
    K.2.2.2 ((v.1.1, (v.1.2, (0 : Int))), v.2)
  else
    bif (v.1.1 == (0 : Int)) then
      (F17_0 ()).bind fun r1242 =>
      some (r1242)
    else
      (idx (0 : Int) (v.2.1).length).bind fun (x1243 : Nat) =>
      ((v.2.1)[x1243]?).bind fun (x1244 : Int) =>
      bif (x1244 == (0 : Int)) then
        (F17_0 ()).bind fun r1245 =>
        some (r1245)
      else
        some (false)

def B6_0_27 (K : (((List (Int × (List (Int × Bool)) × List Int)) × Int × Int × Int × Int) → Option Bool) × (((List (Int × (List (Int × Bool)) × List Int)) × Int × Int × Int × Int × Int) → Option Bool) × (((Int × Int) × List Int × List Int) → Option Bool) × (((Int × Int × Int) × List Int × List Int) → Option Bool)) (v : (Int × Int × Int) × List Int × List Int) : Option Bool :=
  bif (decide (v.1.2.2 < v.1.2.1)) then
    (idx v.1.2.2 (v.2.2).length).bind fun (x1246 : Nat) =>
    ((v.2.2)[x1246]?).bind fun (x1247 : Int) =>
    (idx v.1.2.1 (v.2.2).length).bind fun (x1248 : Nat) =>
    ((v.2.2)[x1248]?).bind fun (x1249 : Int) =>
    bif (x1247 == x1249) then
      some (false)
    else
      (idx v.1.2.2 (v.2.1).length).bind fun (x1250 : Nat) =>
      ((v.2.1)[x1250]?).bind fun (x1251 : Int) =>
      (idx v.1.2.1 (v.2.1).length).bind fun (x1252 : Nat) =>
      ((v.2.1)[x1252]?).bind fun (x1253 : Int) =>
      bif (decide (x1251 > x1253)) then
        some (false)
      else
        let x1254 : Int := (IntKind.wrap .i64 (v.1.2.2 + (1 : Int)))
        K.2.2.2 ((v.1.1, (v.1.2.1, x1254)), v.2)
  else
    let x1255 : Int := (IntKind.wrap .i64 (v.1.2.1 + (1 : Int)))
    K.2.2.1 ((v.1.1, x1255), v.2)

def E6_0 (K : (((List (Int × (List (Int × Bool)) × List Int)) × Int × Int × Int × Int) → Option Bool) × (((List (Int × (List (Int × Bool)) × List Int)) × Int × Int × Int × Int × Int) → Option Bool) × (((Int × Int) × List Int × List Int) → Option Bool) × (((Int × Int × Int) × List Int × List Int) → Option Bool)) (v : List (Int × (List (Int × Bool)) × List Int)) : Option Bool :=
  (F12_0 v).bind fun r1224 =>
  bif (!r1224) then
    some (true)
  else
    (F13_0 v).bind fun r1225 =>
    K.1 (v, ((0 : Int), (r1225.1, (r1225.2, (0 : Int)))))

def K6_0 : Nat → (((List (Int × (List (Int × Bool)) × List Int)) × Int × Int × Int × Int) → Option Bool) × (((List (Int × (List (Int × Bool)) × List Int)) × Int × Int × Int × Int × Int) → Option Bool) × (((Int × Int) × List Int × List Int) → Option Bool) × (((Int × Int × Int) × List Int × List Int) → Option Bool)
  | 0 => (fun _ => none, fun _ => none, fun _ => none, fun _ => none)
  | n + 1 => (B6_0_6 (K6_0 n), B6_0_12 (K6_0 n), B6_0_24 (K6_0 n), B6_0_27 (K6_0 n))
def fuel6_0 (v : List (Int × (List (Int × Bool)) × List Int)) : Nat := 20000
def F6_0 (v : List (Int × (List (Int × Bool)) × List Int)) : Option Bool := E6_0 (K6_0 (fuel6_0 v)) v
noncomputable def k6_0 : List (Known Try.prog E) := [Known.of envOk [7] [(.ros 57)] v12_0 F12_0 w12_0 ok12_0, Known.of envOk [7] [(.ros 57)] v13_0 F13_0 w13_0 ok13_0, Known.of envOk [9] [(.agg [.keep, (.ros 59), (.ros 51)])] v14_0 F14_0 w14_0 ok14_0, Known.of envOk [7] [(.ros 57)] v15_0 F15_0 w15_0 ok15_0, Known.of envOk [7] [(.ros 57)] v16_0 F16_0 w16_0 ok16_0, Known.of envOk [] [] v17_0 F17_0 w17_0 ok17_0]
def s6_0_27 : List (Nat × Pat) := [(3, .keep), (11, (.own 0 3)), (12, (.own 1 51)), (13, .keep), (14, .keep)]
def s6_0_24 : List (Nat × Pat) := [(3, .keep), (11, (.own 0 3)), (12, (.own 1 51)), (13, .keep)]
def s6_0_12 : List (Nat × Pat) := [(0, (.ros 57)), (3, .keep), (4, .keep), (5, .keep), (6, .keep), (9, .keep)]
def s6_0_6 : List (Nat × Pat) := [(0, (.ros 57)), (3, .keep), (4, .keep), (5, .keep), (6, .keep)]
noncomputable def L6_0 (n id : Nat) (st : St G) : Option Bool := match Nat.beq id 6 with | true => cutK Try.prog s6_0_6 [] c6_0_6.dec (K6_0 n).1 st | false => match Nat.beq id 12 with | true => cutK Try.prog s6_0_12 [] c6_0_12.dec (K6_0 n).2.1 st | false => match Nat.beq id 24 with | true => cutK Try.prog s6_0_24 [] c6_0_24.dec (K6_0 n).2.2.1 st | false => match Nat.beq id 27 with | true => cutK Try.prog s6_0_27 [] c6_0_27.dec (K6_0 n).2.2.2 st | false => none
set_option maxRecDepth 100000 in
theorem e6_0 (n : Nat) (v : List (Int × (List (Int × Bool)) × List Int)) : ev Try.prog E (oracle k6_0) Try.f6.ntmps (fun x => mem x [6, 12, 24, 27]) (L6_0 n) (finF Try.prog E Try.f6.results.toList [[]] w6_0.alts) 4000 [.code (Try.f6.body.getD .skip)] (argSt (v6_0.enc v)) = E6_0 (K6_0 n) v := by kernel_rfl
set_option maxRecDepth 100000 in
theorem b6_0_6 (n : Nat) (v : (List (Int × (List (Int × Bool)) × List Int)) × Int × Int × Int × Int) : evCut Try.prog E (oracle k6_0) false 6 Try.f6.ntmps (fun x => mem x [6, 12, 24, 27]) (L6_0 n) (finF Try.prog E Try.f6.results.toList [[]] w6_0.alts) 4000 (todoAt (Try.f6.body.getD .skip) 6) (cutSt s6_0_6 (c6_0_6.enc v)) = B6_0_6 (K6_0 n) v := by kernel_rfl
set_option maxRecDepth 100000 in
theorem b6_0_12 (n : Nat) (v : (List (Int × (List (Int × Bool)) × List Int)) × Int × Int × Int × Int × Int) : evCut Try.prog E (oracle k6_0) false 6 Try.f6.ntmps (fun x => mem x [6, 12, 24, 27]) (L6_0 n) (finF Try.prog E Try.f6.results.toList [[]] w6_0.alts) 4000 (todoAt (Try.f6.body.getD .skip) 12) (cutSt s6_0_12 (c6_0_12.enc v)) = B6_0_12 (K6_0 n) v := by kernel_rfl
set_option maxRecDepth 100000 in
theorem b6_0_24 (n : Nat) (v : (Int × Int) × List Int × List Int) : evCut Try.prog E (oracle k6_0) false 6 Try.f6.ntmps (fun x => mem x [6, 12, 24, 27]) (L6_0 n) (finF Try.prog E Try.f6.results.toList [[]] w6_0.alts) 4000 (todoAt (Try.f6.body.getD .skip) 24) (cutSt s6_0_24 (c6_0_24.enc v)) = B6_0_24 (K6_0 n) v := by kernel_rfl
set_option maxRecDepth 100000 in
theorem b6_0_27 (n : Nat) (v : (Int × Int × Int) × List Int × List Int) : evCut Try.prog E (oracle k6_0) false 6 Try.f6.ntmps (fun x => mem x [6, 12, 24, 27]) (L6_0 n) (finF Try.prog E Try.f6.results.toList [[]] w6_0.alts) 4000 (todoAt (Try.f6.body.getD .skip) 27) (cutSt s6_0_27 (c6_0_27.enc v)) = B6_0_27 (K6_0 n) v := by kernel_rfl
theorem ok6_0 : FnOk Try.prog E 6 v6_0.enc F6_0 w6_0.enc :=
  fn_known (fn := Try.f6) (c := (Try.f6.body.getD .skip)) Try.func6 (by kernel_rfl) rfl envOk (oracle_ok k6_0) mixed v6_0 F6_0 w6_0 [] [[]] (by kernel_rfl) [6, 12, 24, 27] 4000 L6_0 (by kernel_rfl)
    (List.forall_mem_cons.2 ⟨⟨_, [], s6_0_6, c6_0_6.dec, c6_0_6.enc, fun n => (K6_0 n).1, c6_0_6.ok, fun _ _ => rfl, fun _ => rfl, by kernel_rfl, fun n v _ h => (b6_0_6 n v).trans h⟩, List.forall_mem_cons.2 ⟨⟨_, [], s6_0_12, c6_0_12.dec, c6_0_12.enc, fun n => (K6_0 n).2.1, c6_0_12.ok, fun _ _ => rfl, fun _ => rfl, by kernel_rfl, fun n v _ h => (b6_0_12 n v).trans h⟩, List.forall_mem_cons.2 ⟨⟨_, [], s6_0_24, c6_0_24.dec, c6_0_24.enc, fun n => (K6_0 n).2.2.1, c6_0_24.ok, fun _ _ => rfl, fun _ => rfl, by kernel_rfl, fun n v _ h => (b6_0_24 n v).trans h⟩, List.forall_mem_cons.2 ⟨⟨_, [], s6_0_27, c6_0_27.dec, c6_0_27.enc, fun n => (K6_0 n).2.2.2, c6_0_27.ok, fun _ _ => rfl, fun _ => rfl, by kernel_rfl, fun n v _ h => (b6_0_27 n v).trans h⟩, fun _ h => (nomatch h)⟩⟩⟩⟩) (fun v _ h => ⟨fuel6_0 v, (e6_0 _ v).trans h⟩) (fun _ => by kernel_rfl) (fun _ => by kernel_rfl) (fun _ _ => by kernel_rfl)
def Dom6_0 (v : List (Int × (List (Int × Bool)) × List Int)) : Prop := (((v).length ≤ maxLen ∧ ∀ x ∈ v, (Lit.int .i64 x.1).wf = true ∧ (((x.2.1).length ≤ maxLen ∧ ∀ y ∈ x.2.1, (Lit.int .i64 y.1).wf = true)) ∧ (((x.2.2).length ≤ maxLen ∧ ∀ y ∈ x.2.2, (Lit.int .i64 y).wf = true))))
end Go.Proofs.Ytgjglkogengmbaa.Ev
