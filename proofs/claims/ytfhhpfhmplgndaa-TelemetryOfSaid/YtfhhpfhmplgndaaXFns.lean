import Derived.Test.YtfhhpfhmplgndaaXEnv
set_option linter.unusedVariables false
namespace Go.Proofs.Ytfhhpfhmplgndaa.Ev
open Go Go.RowKit
def sc0 : ByteArray := ⟨#[67, 72, 84, 76]⟩
/- math/bits.Mul64 -/
abbrev A98_0 : Type := Int × Int
abbrev R98_0 : Type := Int × Int
def v98_0 : Pk G (Int × Int) := (Pk.fst (pk (Sh.cons (Sh.int .u64) (Sh.fst (Sh.cons (Sh.int .u64) Sh.nil))) Sh.hnil))
def w98_0 : Wk G (Int × Int) := (Wk.one [.keep, .keep] (Pk.fst (pk (Sh.cons (Sh.int .u64) (Sh.fst (Sh.cons (Sh.int .u64) Sh.nil))) Sh.hnil)))
def F98_0 (v : Int × Int) : Option (Int × Int) :=
  let x43 : Int := (Go.bits .and .u64 v.1 (4294967295 : Int))
  let x44 : Int := (Int.fdiv v.1 (2 ^ 32))
  let x45 : Int := (Go.bits .and .u64 v.2 (4294967295 : Int))
  let x46 : Int := (Int.fdiv v.2 (2 ^ 32))
  let x47 : Int := (IntKind.wrap .u64 (x43 * x45))
  let x48 : Int := (IntKind.wrap .u64 (x44 * x45))
  let x49 : Int := (Int.fdiv x47 (2 ^ 32))
  let x50 : Int := (IntKind.wrap .u64 (x48 + x49))
  let x51 : Int := (Go.bits .and .u64 x50 (4294967295 : Int))
  let x52 : Int := (Int.fdiv x50 (2 ^ 32))
  let x53 : Int := (IntKind.wrap .u64 (x43 * x46))
  let x54 : Int := (IntKind.wrap .u64 (x51 + x53))
  let x55 : Int := (IntKind.wrap .u64 (x44 * x46))
  let x56 : Int := (IntKind.wrap .u64 (x55 + x52))
  let x57 : Int := (Int.fdiv x54 (2 ^ 32))
  let x58 : Int := (IntKind.wrap .u64 (x56 + x57))
  let x59 : Int := (IntKind.wrap .u64 (v.1 * v.2))
  some (x58, x59)

noncomputable def k98_0 : List (Known Try.prog E) := []
noncomputable def L98_0 (n id : Nat) (st : St G) : Option (Int × Int) := none
set_option maxRecDepth 100000 in
theorem e98_0 (n : Nat) (v : Int × Int) : ev Try.prog E (oracle k98_0) Try.f98.ntmps (fun x => mem x []) (L98_0 n) (finA Try.prog E Try.f98.results.toList [] w98_0.alts) 4000 [.code (Try.f98.body.getD .skip)] (argSt (v98_0.enc v)) = F98_0 v := by kernel_rfl
theorem ok98_0 : FnOk Try.prog E 98 v98_0.enc F98_0 w98_0.enc :=
  fn_known (fn := Try.f98) (c := (Try.f98.body.getD .skip)) Try.func98 (by kernel_rfl) rfl envOk (oracle_ok k98_0) mixed v98_0 F98_0 w98_0 [] [] 4000 L98_0 (by kernel_rfl)
    (fun _ h => nomatch h) (fun v _ h => ⟨0, (e98_0 _ v).trans h⟩) (fun _ => by kernel_rfl) (fun _ => by kernel_rfl) (fun _ _ => by kernel_rfl)
/- chicane/wide.Mul -/
abbrev A71_0 : Type := Int × Int
abbrev R71_0 : Type := Int × Int
def v71_0 : Pk G (Int × Int) := (Pk.fst (pk (Sh.cons (Sh.int .i64) (Sh.fst (Sh.cons (Sh.int .i64) Sh.nil))) Sh.hnil))
def w71_0 : Wk G (Int × Int) := (Wk.one [(.agg [.keep, .keep])] (Pk.fst (pk (Sh.fst (Sh.cons (Sh.agg (Sh.cons (Sh.int .i64) (Sh.fst (Sh.cons (Sh.int .u64) Sh.nil)))) Sh.nil)) Sh.hnil)))
def F71_0 (v : Int × Int) : Option (Int × Int) :=
  let x84 : Int := (IntKind.wrap .u64 v.1)
  let x85 : Int := (IntKind.wrap .u64 v.2)
  (F98_0 (x84, x85)).bind fun r86 =>
  bif (decide (v.1 < (0 : Int))) then
    let x87 : Int := (IntKind.wrap .u64 v.2)
    let x88 : Int := (IntKind.wrap .u64 (r86.1 - x87))
    bif (decide (v.2 < (0 : Int))) then
      let x89 : Int := (IntKind.wrap .u64 v.1)
      let x90 : Int := (IntKind.wrap .u64 (x88 - x89))
      let x91 : Int := (IntKind.wrap .i64 x90)
      some (x91, r86.2)
    else
      let x92 : Int := (IntKind.wrap .i64 x88)
      some (x92, r86.2)
  else
    bif (decide (v.2 < (0 : Int))) then
      let x93 : Int := (IntKind.wrap .u64 v.1)
      let x94 : Int := (IntKind.wrap .u64 (r86.1 - x93))
      let x95 : Int := (IntKind.wrap .i64 x94)
      some (x95, r86.2)
    else
      let x96 : Int := (IntKind.wrap .i64 r86.1)
      some (x96, r86.2)

noncomputable def k71_0 : List (Known Try.prog E) := [Known.of envOk [1, 1] [.keep, .keep] v98_0 F98_0 w98_0 ok98_0]
noncomputable def L71_0 (n id : Nat) (st : St G) : Option (Int × Int) := none
set_option maxRecDepth 100000 in
theorem e71_0 (n : Nat) (v : Int × Int) : ev Try.prog E (oracle k71_0) Try.f71.ntmps (fun x => mem x []) (L71_0 n) (finA Try.prog E Try.f71.results.toList [] w71_0.alts) 4000 [.code (Try.f71.body.getD .skip)] (argSt (v71_0.enc v)) = F71_0 v := by kernel_rfl
theorem ok71_0 : FnOk Try.prog E 71 v71_0.enc F71_0 w71_0.enc :=
  fn_known (fn := Try.f71) (c := (Try.f71.body.getD .skip)) Try.func71 (by kernel_rfl) rfl envOk (oracle_ok k71_0) mixed v71_0 F71_0 w71_0 [] [] 4000 L71_0 (by kernel_rfl)
    (fun _ h => nomatch h) (fun v _ h => ⟨0, (e71_0 _ v).trans h⟩) (fun _ => by kernel_rfl) (fun _ => by kernel_rfl) (fun _ _ => by kernel_rfl)
/- math/bits.Add64 -/
abbrev A96_x : Type := Int × Int × Int
abbrev R96_x : Type := Int × Int
def v96_x : Pk G (Int × Int × Int) := p3u
def w96_x : Wk G (Int × Int) := Wk.one [.keep, .keep] p2u
def F96_x (v : Int × Int × Int) : Option (Int × Int) := add64F v
theorem ok96_x : FnOk Try.prog E 96 v96_x.enc F96_x w96_x.enc := add64_known Try.func96 (by kernel_rfl) (by kernel_rfl) (by kernel_rfl) (by kernel_rfl)
/- chicane/wide.Add -/
abbrev A68_0 : Type := (Int × Int) × Int × Int
abbrev R68_0 : Type := (Int × Int) × Bool
def v68_0 : Pk G ((Int × Int) × Int × Int) := (Pk.fst (pk (Sh.cons (Sh.agg (Sh.cons (Sh.int .i64) (Sh.fst (Sh.cons (Sh.int .u64) Sh.nil)))) (Sh.fst (Sh.cons (Sh.agg (Sh.cons (Sh.int .i64) (Sh.fst (Sh.cons (Sh.int .u64) Sh.nil)))) Sh.nil))) Sh.hnil))
def w68_0 : Wk G ((Int × Int) × Bool) := (Wk.one [(.agg [.keep, .keep]), .keep] (Pk.fst (pk (Sh.cons (Sh.agg (Sh.cons (Sh.int .i64) (Sh.fst (Sh.cons (Sh.int .u64) Sh.nil)))) (Sh.fst (Sh.cons Sh.bool Sh.nil))) Sh.hnil)))
def F68_0 (v : (Int × Int) × Int × Int) : Option ((Int × Int) × Bool) :=
  (F96_x (v.1.2, (v.2.2, (0 : Int)))).bind fun r112 =>
  let x113 : Int := (IntKind.wrap .u64 v.1.1)
  let x114 : Int := (IntKind.wrap .u64 v.2.1)
  (F96_x (x113, (x114, r112.2))).bind fun r115 =>
  bif ((decide (v.1.1 < (0 : Int))) == (decide (v.2.1 < (0 : Int)))) then
    let x116 : Int := (IntKind.wrap .i64 r115.1)
    bif (!((decide (x116 < (0 : Int))) == (decide (v.1.1 < (0 : Int))))) then
      some (((0 : Int), (0 : Int)), false)
    else
      let x117 : Int := (IntKind.wrap .i64 r115.1)
      some ((x117, r112.1), true)
  else
    let x118 : Int := (IntKind.wrap .i64 r115.1)
    some ((x118, r112.1), true)

noncomputable def k68_0 : List (Known Try.prog E) := [Known.of envOk [1, 1, 1] [.keep, .keep, .keep] v96_x F96_x w96_x ok96_x]
noncomputable def L68_0 (n id : Nat) (st : St G) : Option ((Int × Int) × Bool) := none
set_option maxRecDepth 100000 in
theorem e68_0 (n : Nat) (v : (Int × Int) × Int × Int) : ev Try.prog E (oracle k68_0) Try.f68.ntmps (fun x => mem x []) (L68_0 n) (finA Try.prog E Try.f68.results.toList [] w68_0.alts) 4000 [.code (Try.f68.body.getD .skip)] (argSt (v68_0.enc v)) = F68_0 v := by kernel_rfl
theorem ok68_0 : FnOk Try.prog E 68 v68_0.enc F68_0 w68_0.enc :=
  fn_known (fn := Try.f68) (c := (Try.f68.body.getD .skip)) Try.func68 (by kernel_rfl) rfl envOk (oracle_ok k68_0) mixed v68_0 F68_0 w68_0 [] [] 4000 L68_0 (by kernel_rfl)
    (fun _ h => nomatch h) (fun v _ h => ⟨0, (e68_0 _ v).trans h⟩) (fun _ => by kernel_rfl) (fun _ => by kernel_rfl) (fun _ _ => by kernel_rfl)
/- (chicane/wide.size).below -/
abbrev A64_0 : Type := (Int × Int) × Int × Int
abbrev R64_0 : Type := Bool
def v64_0 : Pk G ((Int × Int) × Int × Int) := (Pk.fst (pk (Sh.cons (Sh.agg (Sh.cons (Sh.int .u64) (Sh.fst (Sh.cons (Sh.int .u64) Sh.nil)))) (Sh.fst (Sh.cons (Sh.agg (Sh.cons (Sh.int .u64) (Sh.fst (Sh.cons (Sh.int .u64) Sh.nil)))) Sh.nil))) Sh.hnil))
def w64_0 : Wk G Bool := (Wk.one [.keep] (Pk.fst (pk (Sh.fst (Sh.cons Sh.bool Sh.nil)) Sh.hnil)))
def F64_0 (v : (Int × Int) × Int × Int) : Option Bool :=
  bif (decide (v.1.1 < v.2.1)) then
    some (true)
  else
    bif (v.1.1 == v.2.1) then
      some (decide (v.1.2 < v.2.2))
    else
      some (false)

noncomputable def k64_0 : List (Known Try.prog E) := []
noncomputable def L64_0 (n id : Nat) (st : St G) : Option Bool := none
set_option maxRecDepth 100000 in
theorem e64_0 (n : Nat) (v : (Int × Int) × Int × Int) : ev Try.prog E (oracle k64_0) Try.f64.ntmps (fun x => mem x []) (L64_0 n) (finA Try.prog E Try.f64.results.toList [] w64_0.alts) 4000 [.code (Try.f64.body.getD .skip)] (argSt (v64_0.enc v)) = F64_0 v := by kernel_rfl
theorem ok64_0 : FnOk Try.prog E 64 v64_0.enc F64_0 w64_0.enc :=
  fn_known (fn := Try.f64) (c := (Try.f64.body.getD .skip)) Try.func64 (by kernel_rfl) rfl envOk (oracle_ok k64_0) mixed v64_0 F64_0 w64_0 [] [] 4000 L64_0 (by kernel_rfl)
    (fun _ h => nomatch h) (fun v _ h => ⟨0, (e64_0 _ v).trans h⟩) (fun _ => by kernel_rfl) (fun _ => by kernel_rfl) (fun _ _ => by kernel_rfl)
/- chicane/wide.Root -/
abbrev A113_0 : Type := Int × Int
abbrev R113_0 : Type := Int
def v113_0 : Pk G (Int × Int) := (Pk.fst (pk (Sh.fst (Sh.cons (Sh.agg (Sh.cons (Sh.int .i64) (Sh.fst (Sh.cons (Sh.int .u64) Sh.nil)))) Sh.nil)) Sh.hnil))
def w113_0 : Wk G Int := (Wk.one [.keep] (Pk.fst (pk (Sh.fst (Sh.cons (Sh.int .u64) Sh.nil)) Sh.hnil)))
def c113_0_5 : Pk G ((Int × Int) × Int × Int) := (pk (Sh.snd (Sh.cons (Sh.ptr 0 0) (Sh.cons (Sh.int .u64) (Sh.fst (Sh.cons (Sh.int .u64) Sh.nil))))) (Sh.fst (Sh.hfix 0 124 (Sh.cons (Sh.int .u64) (Sh.fst (Sh.cons (Sh.int .u64) Sh.nil))) Sh.hnil)))
def B113_0_5 (K : (((Int × Int) × Int × Int) → Option Int)) (v : (Int × Int) × Int × Int) : Option Int :=
  bif (decide (v.1.1 < v.1.2)) then
    let x142 : Int := (IntKind.wrap .u64 (v.1.2 - v.1.1))
    let x143 : Int := (IntKind.wrap .u64 (x142 + (1 : Int)))
    let x144 : Int := (IntKind.wrap .u64 (Int.tdiv x143 (2 : Int)))
    let x145 : Int := (IntKind.wrap .u64 (v.1.1 + x144))
    (F98_0 (x145, x145)).bind fun r146 =>
    (F64_0 (v.2, r146)).bind fun r147 =>
    bif r147 then
      let x148 : Int := (IntKind.wrap .u64 (x145 - (1 : Int)))
      K ((v.1.1, x148), v.2)
    else
      K ((x145, v.1.2), v.2)
  else
    some (v.1.1)

def E113_0 (K : (((Int × Int) × Int × Int) → Option Int)) (v : Int × Int) : Option Int :=
  bif (decide (v.1 < (0 : Int))) then
    some (0 : Int)
  else
    let x140 : Bool := ((v.1 == (0 : Int)) && ((v.2 == (0 : Int)) && true))
    bif x140 then
      some (0 : Int)
    else
      let x141 : Int := (IntKind.wrap .u64 v.1)
      K (((1 : Int), (13835058055282163712 : Int)), (x141, v.2))

def K113_0 : Nat → (((Int × Int) × Int × Int) → Option Int)
  | 0 => (fun _ => none)
  | n + 1 => (B113_0_5 (K113_0 n))
def fuel113_0 (v : Int × Int) : Nat := 1000
def F113_0 (v : Int × Int) : Option Int := E113_0 (K113_0 (fuel113_0 v)) v
noncomputable def k113_0 : List (Known Try.prog E) := [Known.of envOk [1, 1] [.keep, .keep] v98_0 F98_0 w98_0 ok98_0, Known.of envOk [9, 9] [(.agg [.keep, .keep]), (.agg [.keep, .keep])] v64_0 F64_0 w64_0 ok64_0]
def s113_0_5 : List (Nat × Pat) := [(3, (.ptr 0 0 124 [.keep, .keep])), (4, .keep), (5, .keep)]
noncomputable def L113_0 (n id : Nat) (st : St G) : Option Int := match Nat.beq id 5 with | true => cutK Try.prog s113_0_5 [] c113_0_5.dec (K113_0 n) st | false => none
set_option maxRecDepth 100000 in
theorem e113_0 (n : Nat) (v : Int × Int) : ev Try.prog E (oracle k113_0) Try.f113.ntmps (fun x => mem x [5]) (L113_0 n) (finA Try.prog E Try.f113.results.toList [] w113_0.alts) 4000 [.code (Try.f113.body.getD .skip)] (argSt (v113_0.enc v)) = E113_0 (K113_0 n) v := by kernel_rfl
set_option maxRecDepth 100000 in
theorem b113_0_5 (n : Nat) (v : (Int × Int) × Int × Int) : evCut Try.prog E (oracle k113_0) Try.f113.ntmps (fun x => mem x [5]) (L113_0 n) (finA Try.prog E Try.f113.results.toList [] w113_0.alts) 4000 (todoAt (Try.f113.body.getD .skip) 5) (cutSt s113_0_5 (c113_0_5.enc v)) = B113_0_5 (K113_0 n) v := by kernel_rfl
theorem ok113_0 : FnOk Try.prog E 113 v113_0.enc F113_0 w113_0.enc :=
  fn_known (fn := Try.f113) (c := (Try.f113.body.getD .skip)) Try.func113 (by kernel_rfl) rfl envOk (oracle_ok k113_0) mixed v113_0 F113_0 w113_0 [] [5] 4000 L113_0 (by kernel_rfl)
    (List.forall_mem_cons.2 ⟨⟨_, s113_0_5, c113_0_5.dec, c113_0_5.enc, fun n => (K113_0 n), c113_0_5.ok, fun _ _ => rfl, fun _ => rfl, fun n v _ h => (b113_0_5 n v).trans h⟩, fun _ h => (nomatch h)⟩) (fun v _ h => ⟨fuel113_0 v, (e113_0 _ v).trans h⟩) (fun _ => by kernel_rfl) (fun _ => by kernel_rfl) (fun _ _ => by kernel_rfl)
/- chicane/root.length -/
abbrev A97_0 : Type := List Int × Bool
abbrev R97_0 : Type := Int × Bool
def v97_0 : Pk G (List Int × Bool) := (pk (Sh.snd (Sh.cons (Sh.ptr 0 0) (Sh.fst (Sh.cons (Sh.ros 23) Sh.nil)))) (Sh.fst (Sh.hfix 0 52 (Sh.fst (Sh.cons Sh.bool Sh.nil)) Sh.hnil)))
def w97_0 : Wk G (Int × Bool) := (Wk.one [.keep] (pk (Sh.fst (Sh.cons (Sh.int .i64) Sh.nil)) (Sh.fst (Sh.hfix 0 52 (Sh.fst (Sh.cons Sh.bool Sh.nil)) Sh.hnil))))
def c97_0_4 : Pk G ((Bool × List Int × Int × Int) × (Int × Int) × Bool) := (pk (Sh.snd (Sh.cons (Sh.ptr 0 0) (Sh.snd (Sh.cons (Sh.ptr 1 0) (Sh.cons Sh.bool (Sh.cons (Sh.ros 23) (Sh.cons (Sh.int .i64) (Sh.fst (Sh.cons (Sh.int .i64) Sh.nil))))))))) (Sh.hfix 1 88 (Sh.cons (Sh.int .i64) (Sh.fst (Sh.cons (Sh.int .u64) Sh.nil))) (Sh.fst (Sh.hfix 0 52 (Sh.fst (Sh.cons Sh.bool Sh.nil)) Sh.hnil))))
def B97_0_4 (K : (((Bool × List Int × Int × Int) × (Int × Int) × Bool) → Option (Int × Bool))) (v : (Bool × List Int × Int × Int) × (Int × Int) × Bool) : Option (Int × Bool) :=
  bif (decide (v.1.2.2.2 < v.1.2.2.1)) then
    (rdx v.1.2.1 v.1.2.2.2).bind fun (x163 : Int) =>
    (F71_0 (x163, x163)).bind fun r164 =>
    (F68_0 (v.2.1, r164)).bind fun r165 =>
    bif (!r165.2) then
      (F113_0 r165.1).bind fun r166 =>
      bif (!r165.2) then
        some ((9223372036854775807 : Int), true)
      else
        bif (decide (r166 > (9223372036854775807 : Int))) then
          some ((9223372036854775807 : Int), true)
        else
          let x167 : Int := (IntKind.wrap .i64 r166)
          some (x167, v.2.2)
    else
      let x168 : Int := (IntKind.wrap .i64 (v.1.2.2.2 + (1 : Int)))
      K ((r165.2, (v.1.2.1, (v.1.2.2.1, x168))), (r165.1, v.2.2))
  else
    (F113_0 v.2.1).bind fun r169 =>
    bif (!v.1.1) then
      some ((9223372036854775807 : Int), true)
    else
      bif (decide (r169 > (9223372036854775807 : Int))) then
        some ((9223372036854775807 : Int), true)
      else
        let x170 : Int := (IntKind.wrap .i64 r169)
        some (x170, v.2.2)

def E97_0 (K : (((Bool × List Int × Int × Int) × (Int × Int) × Bool) → Option (Int × Bool))) (v : List Int × Bool) : Option (Int × Bool) :=
  K ((true, (v.1, (((v.1).length : Int), (0 : Int)))), (((0 : Int), (0 : Int)), v.2))

def K97_0 : Nat → (((Bool × List Int × Int × Int) × (Int × Int) × Bool) → Option (Int × Bool))
  | 0 => (fun _ => none)
  | n + 1 => (B97_0_4 (K97_0 n))
def fuel97_0 (v : List Int × Bool) : Nat := 1000
def F97_0 (v : List Int × Bool) : Option (Int × Bool) := E97_0 (K97_0 (fuel97_0 v)) v
noncomputable def k97_0 : List (Known Try.prog E) := [Known.of envOk [1, 1] [.keep, .keep] v71_0 F71_0 w71_0 ok71_0, Known.of envOk [9, 9] [(.agg [.keep, .keep]), (.agg [.keep, .keep])] v68_0 F68_0 w68_0 ok68_0, Known.of envOk [9] [(.agg [.keep, .keep])] v113_0 F113_0 w113_0 ok113_0]
def s97_0_4 : List (Nat × Pat) := [(0, (.ptr 0 0 52 [])), (5, (.ptr 1 0 88 [.keep, .keep])), (6, .keep), (10, (.ros 23)), (11, .keep), (12, .keep)]
noncomputable def L97_0 (n id : Nat) (st : St G) : Option (Int × Bool) := match Nat.beq id 4 with | true => cutK Try.prog s97_0_4 [(.ptr 0 0 52 [.keep])] c97_0_4.dec (K97_0 n) st | false => none
set_option maxRecDepth 100000 in
theorem e97_0 (n : Nat) (v : List Int × Bool) : ev Try.prog E (oracle k97_0) Try.f97.ntmps (fun x => mem x [4]) (L97_0 n) (finA Try.prog E Try.f97.results.toList [(.ptr 0 0 52 [.keep])] w97_0.alts) 4000 [.code (Try.f97.body.getD .skip)] (argSt (v97_0.enc v)) = E97_0 (K97_0 n) v := by kernel_rfl
set_option maxRecDepth 100000 in
theorem b97_0_4 (n : Nat) (v : (Bool × List Int × Int × Int) × (Int × Int) × Bool) : evCut Try.prog E (oracle k97_0) Try.f97.ntmps (fun x => mem x [4]) (L97_0 n) (finA Try.prog E Try.f97.results.toList [(.ptr 0 0 52 [.keep])] w97_0.alts) 4000 (todoAt (Try.f97.body.getD .skip) 4) (cutSt s97_0_4 (c97_0_4.enc v)) = B97_0_4 (K97_0 n) v := by kernel_rfl
theorem ok97_0 : FnOk Try.prog E 97 v97_0.enc F97_0 w97_0.enc :=
  fn_known (fn := Try.f97) (c := (Try.f97.body.getD .skip)) Try.func97 (by kernel_rfl) rfl envOk (oracle_ok k97_0) mixed v97_0 F97_0 w97_0 [(.ptr 0 0 52 [.keep])] [4] 4000 L97_0 (by kernel_rfl)
    (List.forall_mem_cons.2 ⟨⟨_, s97_0_4, c97_0_4.dec, c97_0_4.enc, fun n => (K97_0 n), c97_0_4.ok, fun _ _ => rfl, fun _ => rfl, fun n v _ h => (b97_0_4 n v).trans h⟩, fun _ h => (nomatch h)⟩) (fun v _ h => ⟨fuel97_0 v, (e97_0 _ v).trans h⟩) (fun _ => by kernel_rfl) (fun _ => by kernel_rfl) (fun _ _ => by kernel_rfl)
/- chicane/root.Len3 -/
abbrev A69_0 : Type := (Int × Int × Int) × Bool
abbrev R69_0 : Type := Int × Bool
def v69_0 : Pk G ((Int × Int × Int) × Bool) := (pk (Sh.snd (Sh.cons (Sh.ptr 0 0) (Sh.cons (Sh.int .i64) (Sh.cons (Sh.int .i64) (Sh.fst (Sh.cons (Sh.int .i64) Sh.nil)))))) (Sh.fst (Sh.hfix 0 52 (Sh.fst (Sh.cons Sh.bool Sh.nil)) Sh.hnil)))
def w69_0 : Wk G (Int × Bool) := (Wk.one [.keep] (pk (Sh.fst (Sh.cons (Sh.int .i64) Sh.nil)) (Sh.fst (Sh.hfix 0 52 (Sh.fst (Sh.cons Sh.bool Sh.nil)) Sh.hnil))))
def F69_0 (v : (Int × Int × Int) × Bool) : Option (Int × Bool) :=
  (F97_0 (([v.1.1, v.1.2.1, v.1.2.2] : List Int), v.2)).bind fun r173 =>
  some (r173)

noncomputable def k69_0 : List (Known Try.prog E) := [Known.of envOk [5, 7] [(.ptr 0 0 52 [.keep]), (.ros 23)] v97_0 F97_0 w97_0 ok97_0]
noncomputable def L69_0 (n id : Nat) (st : St G) : Option (Int × Bool) := none
set_option maxRecDepth 100000 in
theorem e69_0 (n : Nat) (v : (Int × Int × Int) × Bool) : ev Try.prog E (oracle k69_0) Try.f69.ntmps (fun x => mem x []) (L69_0 n) (finA Try.prog E Try.f69.results.toList [(.ptr 0 0 52 [.keep])] w69_0.alts) 4000 [.code (Try.f69.body.getD .skip)] (argSt (v69_0.enc v)) = F69_0 v := by kernel_rfl
theorem ok69_0 : FnOk Try.prog E 69 v69_0.enc F69_0 w69_0.enc :=
  fn_known (fn := Try.f69) (c := (Try.f69.body.getD .skip)) Try.func69 (by kernel_rfl) rfl envOk (oracle_ok k69_0) mixed v69_0 F69_0 w69_0 [(.ptr 0 0 52 [.keep])] [] 4000 L69_0 (by kernel_rfl)
    (fun _ h => nomatch h) (fun v _ h => ⟨0, (e69_0 _ v).trans h⟩) (fun _ => by kernel_rfl) (fun _ => by kernel_rfl) (fun _ _ => by kernel_rfl)
/- chicane/vec.Len -/
abbrev A31_0 : Type := (Int × Int × Int) × Bool
abbrev R31_0 : Type := Int × Bool
def v31_0 : Pk G ((Int × Int × Int) × Bool) := (pk (Sh.snd (Sh.cons (Sh.ptr 0 0) (Sh.fst (Sh.cons (Sh.agg (Sh.cons (Sh.int .i64) (Sh.cons (Sh.int .i64) (Sh.fst (Sh.cons (Sh.int .i64) Sh.nil))))) Sh.nil)))) (Sh.fst (Sh.hfix 0 52 (Sh.fst (Sh.cons Sh.bool Sh.nil)) Sh.hnil)))
def w31_0 : Wk G (Int × Bool) := (Wk.one [.keep] (pk (Sh.fst (Sh.cons (Sh.int .i64) Sh.nil)) (Sh.fst (Sh.hfix 0 52 (Sh.fst (Sh.cons Sh.bool Sh.nil)) Sh.hnil))))
def F31_0 (v : (Int × Int × Int) × Bool) : Option (Int × Bool) :=
  (F69_0 v).bind fun r176 =>
  some (r176)

noncomputable def k31_0 : List (Known Try.prog E) := [Known.of envOk [5, 1, 1, 1] [(.ptr 0 0 52 [.keep]), .keep, .keep, .keep] v69_0 F69_0 w69_0 ok69_0]
noncomputable def L31_0 (n id : Nat) (st : St G) : Option (Int × Bool) := none
set_option maxRecDepth 100000 in
theorem e31_0 (n : Nat) (v : (Int × Int × Int) × Bool) : ev Try.prog E (oracle k31_0) Try.f31.ntmps (fun x => mem x []) (L31_0 n) (finA Try.prog E Try.f31.results.toList [(.ptr 0 0 52 [.keep])] w31_0.alts) 4000 [.code (Try.f31.body.getD .skip)] (argSt (v31_0.enc v)) = F31_0 v := by kernel_rfl
theorem ok31_0 : FnOk Try.prog E 31 v31_0.enc F31_0 w31_0.enc :=
  fn_known (fn := Try.f31) (c := (Try.f31.body.getD .skip)) Try.func31 (by kernel_rfl) rfl envOk (oracle_ok k31_0) mixed v31_0 F31_0 w31_0 [(.ptr 0 0 52 [.keep])] [] 4000 L31_0 (by kernel_rfl)
    (fun _ h => nomatch h) (fun v _ h => ⟨0, (e31_0 _ v).trans h⟩) (fun _ => by kernel_rfl) (fun _ => by kernel_rfl) (fun _ _ => by kernel_rfl)
/- (*chicane/fx.M).bound -/
abbrev A72_0 : Type := Bool × Bool
abbrev R72_0 : Type := Int × Bool
def v72_0 : Pk G (Bool × Bool) := (pk (Sh.snd (Sh.cons (Sh.ptr 0 0) (Sh.fst (Sh.cons Sh.bool Sh.nil)))) (Sh.fst (Sh.hfix 0 52 (Sh.fst (Sh.cons Sh.bool Sh.nil)) Sh.hnil)))
def w72_0 : Wk G (Int × Bool) := (Wk.one [.keep] (pk (Sh.fst (Sh.cons (Sh.int .i64) Sh.nil)) (Sh.fst (Sh.hfix 0 52 (Sh.fst (Sh.cons Sh.bool Sh.nil)) Sh.hnil))))
def F72_0 (v : Bool × Bool) : Option (Int × Bool) :=
  bif v.1 then
    some ((-9223372036854775808 : Int), true)
  else
    some ((9223372036854775807 : Int), true)

noncomputable def k72_0 : List (Known Try.prog E) := []
noncomputable def L72_0 (n id : Nat) (st : St G) : Option (Int × Bool) := none
set_option maxRecDepth 100000 in
theorem e72_0 (n : Nat) (v : Bool × Bool) : ev Try.prog E (oracle k72_0) Try.f72.ntmps (fun x => mem x []) (L72_0 n) (finA Try.prog E Try.f72.results.toList [(.ptr 0 0 52 [.keep])] w72_0.alts) 4000 [.code (Try.f72.body.getD .skip)] (argSt (v72_0.enc v)) = F72_0 v := by kernel_rfl
theorem ok72_0 : FnOk Try.prog E 72 v72_0.enc F72_0 w72_0.enc :=
  fn_known (fn := Try.f72) (c := (Try.f72.body.getD .skip)) Try.func72 (by kernel_rfl) rfl envOk (oracle_ok k72_0) mixed v72_0 F72_0 w72_0 [(.ptr 0 0 52 [.keep])] [] 4000 L72_0 (by kernel_rfl)
    (fun _ h => nomatch h) (fun v _ h => ⟨0, (e72_0 _ v).trans h⟩) (fun _ => by kernel_rfl) (fun _ => by kernel_rfl) (fun _ _ => by kernel_rfl)
/- chicane/fx.fit -/
abbrev A70_0 : Type := (Int × Int) × Bool
abbrev R70_0 : Type := Int × Bool
def v70_0 : Pk G ((Int × Int) × Bool) := (pk (Sh.fst (Sh.cons (Sh.agg (Sh.cons (Sh.int .i64) (Sh.fst (Sh.cons (Sh.int .u64) Sh.nil)))) (Sh.snd (Sh.cons (Sh.snd (Sh.fn (.func 72) (Sh.snd (Sh.cons (Sh.ptr 0 0) Sh.nil)) Sh.nil)) Sh.nil)))) (Sh.fst (Sh.hfix 0 52 (Sh.fst (Sh.cons Sh.bool Sh.nil)) Sh.hnil)))
def w70_0 : Wk G (Int × Bool) := (Wk.one [.keep] (pk (Sh.fst (Sh.cons (Sh.int .i64) Sh.nil)) (Sh.fst (Sh.hfix 0 52 (Sh.fst (Sh.cons Sh.bool Sh.nil)) Sh.hnil))))
def F70_0 (v : (Int × Int) × Bool) : Option (Int × Bool) :=
  let x187 : Int := (IntKind.wrap .i64 v.1.2)
  let x188 : Int := (Int.fdiv x187 (2 ^ 63))
  bif (v.1.1 != x188) then
    (F72_0 ((decide (v.1.1 < (0 : Int))), v.2)).bind fun r189 =>
    some (r189)
  else
    let x190 : Int := (IntKind.wrap .i64 v.1.2)
    some (x190, v.2)

noncomputable def k70_0 : List (Known Try.prog E) := [Known.of envOk [5, 2] [(.ptr 0 0 52 [.keep]), .keep] v72_0 F72_0 w72_0 ok72_0]
noncomputable def L70_0 (n id : Nat) (st : St G) : Option (Int × Bool) := none
set_option maxRecDepth 100000 in
theorem e70_0 (n : Nat) (v : (Int × Int) × Bool) : ev Try.prog E (oracle k70_0) Try.f70.ntmps (fun x => mem x []) (L70_0 n) (finA Try.prog E Try.f70.results.toList [(.ptr 0 0 52 [.keep])] w70_0.alts) 4000 [.code (Try.f70.body.getD .skip)] (argSt (v70_0.enc v)) = F70_0 v := by kernel_rfl
theorem ok70_0 : FnOk Try.prog E 70 v70_0.enc F70_0 w70_0.enc :=
  fn_known (fn := Try.f70) (c := (Try.f70.body.getD .skip)) Try.func70 (by kernel_rfl) rfl envOk (oracle_ok k70_0) mixed v70_0 F70_0 w70_0 [(.ptr 0 0 52 [.keep])] [] 4000 L70_0 (by kernel_rfl)
    (fun _ h => nomatch h) (fun v _ h => ⟨0, (e70_0 _ v).trans h⟩) (fun _ => by kernel_rfl) (fun _ => by kernel_rfl) (fun _ _ => by kernel_rfl)
/- (*chicane/fx.M).Of -/
abbrev A32_0 : Type := Int × Bool
abbrev R32_0 : Type := Int × Bool
def v32_0 : Pk G (Int × Bool) := (pk (Sh.snd (Sh.cons (Sh.ptr 0 0) (Sh.fst (Sh.cons (Sh.int .i64) Sh.nil)))) (Sh.fst (Sh.hfix 0 52 (Sh.fst (Sh.cons Sh.bool Sh.nil)) Sh.hnil)))
def w32_0 : Wk G (Int × Bool) := (Wk.one [.keep] (pk (Sh.fst (Sh.cons (Sh.int .i64) Sh.nil)) (Sh.fst (Sh.hfix 0 52 (Sh.fst (Sh.cons Sh.bool Sh.nil)) Sh.hnil))))
def F32_0 (v : Int × Bool) : Option (Int × Bool) :=
  (F71_0 (v.1, (4294967296 : Int))).bind fun r194 =>
  (F70_0 (r194, v.2)).bind fun r195 =>
  some (r195)

noncomputable def k32_0 : List (Known Try.prog E) := [Known.of envOk [1, 1] [.keep, .keep] v71_0 F71_0 w71_0 ok71_0, Known.of envOk [9, 172] [(.agg [.keep, .keep]), (.fn (.func 72) [(.ptr 0 0 52 [.keep])] [])] v70_0 F70_0 w70_0 ok70_0]
noncomputable def L32_0 (n id : Nat) (st : St G) : Option (Int × Bool) := none
set_option maxRecDepth 100000 in
theorem e32_0 (n : Nat) (v : Int × Bool) : ev Try.prog E (oracle k32_0) Try.f32.ntmps (fun x => mem x []) (L32_0 n) (finA Try.prog E Try.f32.results.toList [(.ptr 0 0 52 [.keep])] w32_0.alts) 4000 [.code (Try.f32.body.getD .skip)] (argSt (v32_0.enc v)) = F32_0 v := by kernel_rfl
theorem ok32_0 : FnOk Try.prog E 32 v32_0.enc F32_0 w32_0.enc :=
  fn_known (fn := Try.f32) (c := (Try.f32.body.getD .skip)) Try.func32 (by kernel_rfl) rfl envOk (oracle_ok k32_0) mixed v32_0 F32_0 w32_0 [(.ptr 0 0 52 [.keep])] [] 4000 L32_0 (by kernel_rfl)
    (fun _ h => nomatch h) (fun v _ h => ⟨0, (e32_0 _ v).trans h⟩) (fun _ => by kernel_rfl) (fun _ => by kernel_rfl) (fun _ _ => by kernel_rfl)
/- chicane/telemetry.Of -/
abbrev A15_0 : Type := (Int × Int × Int × Int × Int × Int × Int × Int × Int × Int × Int × Int × Int × Int × Int × Bool × Int × Int × Bool × Int × Int × Bool × Int × Int × Bool × Int × Bool × Int × Int × Int × Int × Int × Bool × Bool × Int × Int × Int × Int × Int × Bool × Bool) × Bool
abbrev R15_0 : Type := (Int × Int × Int × Int × Int × Int × Int × Int) × Bool
def v15_0 : Pk G ((Int × Int × Int × Int × Int × Int × Int × Int × Int × Int × Int × Int × Int × Int × Int × Bool × Int × Int × Bool × Int × Int × Bool × Int × Int × Bool × Int × Bool × Int × Int × Int × Int × Int × Bool × Bool × Int × Int × Int × Int × Int × Bool × Bool) × Bool) := (pk (Sh.snd (Sh.cons (Sh.ptr 0 0) (Sh.fst (Sh.cons (Sh.agg (Sh.cons (Sh.int .i64) (Sh.cons (Sh.int .i64) (Sh.cons (Sh.int .i64) (Sh.cons (Sh.int .i64) (Sh.cons (Sh.int .i64) (Sh.cons (Sh.int .i64) (Sh.cons (Sh.int .i64) (Sh.cons (Sh.int .i64) (Sh.cons (Sh.int .i64) (Sh.cons (Sh.int .i64) (Sh.cons (Sh.int .i64) (Sh.cons (Sh.int .i64) (Sh.cons (Sh.int .i64) (Sh.cons (Sh.int .i64) (Sh.cons (Sh.int .i64) (Sh.cons Sh.bool (Sh.cons (Sh.int .i64) (Sh.cons (Sh.int .i64) (Sh.cons Sh.bool (Sh.cons (Sh.int .i64) (Sh.cons (Sh.int .i64) (Sh.cons Sh.bool (Sh.cons (Sh.int .i64) (Sh.cons (Sh.int .i64) (Sh.cons Sh.bool (Sh.cons (Sh.int .i64) (Sh.cons Sh.bool (Sh.cons (Sh.int .i64) (Sh.cons (Sh.int .i64) (Sh.cons (Sh.int .u32) (Sh.cons (Sh.int .i64) (Sh.cons (Sh.int .i64) (Sh.cons Sh.bool (Sh.cons Sh.bool (Sh.cons (Sh.int .i64) (Sh.cons (Sh.int .i64) (Sh.cons (Sh.int .i64) (Sh.cons (Sh.int .i64) (Sh.cons (Sh.int .i64) (Sh.cons Sh.bool (Sh.fst (Sh.cons Sh.bool Sh.nil))))))))))))))))))))))))))))))))))))))))))) Sh.nil)))) (Sh.fst (Sh.hfix 0 52 (Sh.fst (Sh.cons Sh.bool Sh.nil)) Sh.hnil)))
def w15_0 : Wk G ((Int × Int × Int × Int × Int × Int × Int × Int) × Bool) := (Wk.one [(.agg [.keep, .keep, .keep, .keep, .keep, .keep, .keep, .keep])] (pk (Sh.fst (Sh.cons (Sh.agg (Sh.cons (Sh.int .i64) (Sh.cons (Sh.int .i64) (Sh.cons (Sh.int .i64) (Sh.cons (Sh.int .i64) (Sh.cons (Sh.int .i64) (Sh.cons (Sh.int .i64) (Sh.cons (Sh.int .i64) (Sh.fst (Sh.cons (Sh.int .i64) Sh.nil)))))))))) Sh.nil)) (Sh.fst (Sh.hfix 0 52 (Sh.fst (Sh.cons Sh.bool Sh.nil)) Sh.hnil))))
def F15_0 (v : (Int × Int × Int × Int × Int × Int × Int × Int × Int × Int × Int × Int × Int × Int × Int × Bool × Int × Int × Bool × Int × Int × Bool × Int × Int × Bool × Int × Bool × Int × Int × Int × Int × Int × Bool × Bool × Int × Int × Int × Int × Int × Bool × Bool) × Bool) : Option ((Int × Int × Int × Int × Int × Int × Int × Int) × Bool) :=
  let x413 : Int := (if v.1.2.2.2.2.2.2.2.2.2.2.2.2.2.2.1 > v.1.2.2.2.2.2.2.2.2.2.2.2.2.2.2.1 then v.1.2.2.2.2.2.2.2.2.2.2.2.2.2.2.1 else v.1.2.2.2.2.2.2.2.2.2.2.2.2.2.2.1)
  bif v.1.2.2.2.2.2.2.2.2.2.2.2.2.2.2.2.1 then
    let x414 : Int := (if v.1.2.2.2.2.2.2.2.2.2.2.2.2.2.2.2.2.2.1 > x413 then v.1.2.2.2.2.2.2.2.2.2.2.2.2.2.2.2.2.2.1 else x413)
    bif v.1.2.2.2.2.2.2.2.2.2.2.2.2.2.2.2.2.2.2.1 then
      let x415 : Int := (if v.1.2.2.2.2.2.2.2.2.2.2.2.2.2.2.2.2.2.2.2.2.1 > x414 then v.1.2.2.2.2.2.2.2.2.2.2.2.2.2.2.2.2.2.2.2.2.1 else x414)
      bif v.1.2.2.2.2.2.2.2.2.2.2.2.2.2.2.2.2.2.2.2.2.2.1 then
        let x416 : Int := (if v.1.2.2.2.2.2.2.2.2.2.2.2.2.2.2.2.2.2.2.2.2.2.2.2.1 > x415 then v.1.2.2.2.2.2.2.2.2.2.2.2.2.2.2.2.2.2.2.2.2.2.2.2.1 else x415)
        bif v.1.2.2.2.2.2.2.2.2.2.2.2.2.2.2.2.2.2.2.2.2.2.2.2.2.1 then
          (F31_0 ((v.1.2.2.2.1, (v.1.2.2.2.2.1, v.1.2.2.2.2.2.1)), v.2)).bind fun r417 =>
          (F32_0 (v.1.2.2.2.2.2.2.2.2.2.2.2.2.2.2.2.2.2.2.2.2.2.2.2.2.2.2.2.1, r417.2)).bind fun r418 =>
          let x419 : Int := (IntKind.wrap .i32 v.1.2.2.2.2.2.2.2.2.2.2.2.2.2.2.2.2.2.2.2.2.2.2.2.2.2.2.2.2.2.1)
          let x420 : Int := (IntKind.wrap .i64 x419)
          (F31_0 ((v.1.2.2.2.2.2.2.2.2.2.2.1, (v.1.2.2.2.2.2.2.2.2.2.2.2.1, v.1.2.2.2.2.2.2.2.2.2.2.2.2.1)), r418.2)).bind fun r421 =>
          (F32_0 ((4 : Int), r421.2)).bind fun r422 =>
          some ((r417.1, (v.1.2.2.1, (v.1.2.2.2.2.2.2.2.2.2.2.2.2.2.2.2.2.2.2.2.2.2.2.2.2.2.1, (r418.1, (x420, (x416, (r421.1, r422.1))))))), r422.2)
        else
          (F31_0 ((v.1.2.2.2.1, (v.1.2.2.2.2.1, v.1.2.2.2.2.2.1)), v.2)).bind fun r423 =>
          (F32_0 (v.1.2.2.2.2.2.2.2.2.2.2.2.2.2.2.2.2.2.2.2.2.2.2.2.2.2.2.2.1, r423.2)).bind fun r424 =>
          let x425 : Int := (IntKind.wrap .i32 v.1.2.2.2.2.2.2.2.2.2.2.2.2.2.2.2.2.2.2.2.2.2.2.2.2.2.2.2.2.2.1)
          let x426 : Int := (IntKind.wrap .i64 x425)
          (F31_0 ((v.1.2.2.2.2.2.2.2.2.2.2.1, (v.1.2.2.2.2.2.2.2.2.2.2.2.1, v.1.2.2.2.2.2.2.2.2.2.2.2.2.1)), r424.2)).bind fun r427 =>
          (F32_0 ((3 : Int), r427.2)).bind fun r428 =>
          some ((r423.1, (v.1.2.2.1, (v.1.2.2.2.2.2.2.2.2.2.2.2.2.2.2.2.2.2.2.2.2.2.2.2.2.2.1, (r424.1, (x426, (x416, (r427.1, r428.1))))))), r428.2)
      else
        let x429 : Int := (if v.1.2.2.2.2.2.2.2.2.2.2.2.2.2.2.2.2.2.2.2.2.2.2.2.1 > x415 then v.1.2.2.2.2.2.2.2.2.2.2.2.2.2.2.2.2.2.2.2.2.2.2.2.1 else x415)
        bif v.1.2.2.2.2.2.2.2.2.2.2.2.2.2.2.2.2.2.2.2.2.2.2.2.2.1 then
          (F31_0 ((v.1.2.2.2.1, (v.1.2.2.2.2.1, v.1.2.2.2.2.2.1)), v.2)).bind fun r430 =>
          (F32_0 (v.1.2.2.2.2.2.2.2.2.2.2.2.2.2.2.2.2.2.2.2.2.2.2.2.2.2.2.2.1, r430.2)).bind fun r431 =>
          let x432 : Int := (IntKind.wrap .i32 v.1.2.2.2.2.2.2.2.2.2.2.2.2.2.2.2.2.2.2.2.2.2.2.2.2.2.2.2.2.2.1)
          let x433 : Int := (IntKind.wrap .i64 x432)
          (F31_0 ((v.1.2.2.2.2.2.2.2.2.2.2.1, (v.1.2.2.2.2.2.2.2.2.2.2.2.1, v.1.2.2.2.2.2.2.2.2.2.2.2.2.1)), r431.2)).bind fun r434 =>
          (F32_0 ((3 : Int), r434.2)).bind fun r435 =>
          some ((r430.1, (v.1.2.2.1, (v.1.2.2.2.2.2.2.2.2.2.2.2.2.2.2.2.2.2.2.2.2.2.2.2.2.2.1, (r431.1, (x433, (x429, (r434.1, r435.1))))))), r435.2)
        else
          (F31_0 ((v.1.2.2.2.1, (v.1.2.2.2.2.1, v.1.2.2.2.2.2.1)), v.2)).bind fun r436 =>
          (F32_0 (v.1.2.2.2.2.2.2.2.2.2.2.2.2.2.2.2.2.2.2.2.2.2.2.2.2.2.2.2.1, r436.2)).bind fun r437 =>
          let x438 : Int := (IntKind.wrap .i32 v.1.2.2.2.2.2.2.2.2.2.2.2.2.2.2.2.2.2.2.2.2.2.2.2.2.2.2.2.2.2.1)
          let x439 : Int := (IntKind.wrap .i64 x438)
          (F31_0 ((v.1.2.2.2.2.2.2.2.2.2.2.1, (v.1.2.2.2.2.2.2.2.2.2.2.2.1, v.1.2.2.2.2.2.2.2.2.2.2.2.2.1)), r437.2)).bind fun r440 =>
          (F32_0 ((2 : Int), r440.2)).bind fun r441 =>
          some ((r436.1, (v.1.2.2.1, (v.1.2.2.2.2.2.2.2.2.2.2.2.2.2.2.2.2.2.2.2.2.2.2.2.2.2.1, (r437.1, (x439, (x429, (r440.1, r441.1))))))), r441.2)
    else
      let x442 : Int := (if v.1.2.2.2.2.2.2.2.2.2.2.2.2.2.2.2.2.2.2.2.2.1 > x414 then v.1.2.2.2.2.2.2.2.2.2.2.2.2.2.2.2.2.2.2.2.2.1 else x414)
      bif v.1.2.2.2.2.2.2.2.2.2.2.2.2.2.2.2.2.2.2.2.2.2.1 then
        let x443 : Int := (if v.1.2.2.2.2.2.2.2.2.2.2.2.2.2.2.2.2.2.2.2.2.2.2.2.1 > x442 then v.1.2.2.2.2.2.2.2.2.2.2.2.2.2.2.2.2.2.2.2.2.2.2.2.1 else x442)
        bif v.1.2.2.2.2.2.2.2.2.2.2.2.2.2.2.2.2.2.2.2.2.2.2.2.2.1 then
          (F31_0 ((v.1.2.2.2.1, (v.1.2.2.2.2.1, v.1.2.2.2.2.2.1)), v.2)).bind fun r444 =>
          (F32_0 (v.1.2.2.2.2.2.2.2.2.2.2.2.2.2.2.2.2.2.2.2.2.2.2.2.2.2.2.2.1, r444.2)).bind fun r445 =>
          let x446 : Int := (IntKind.wrap .i32 v.1.2.2.2.2.2.2.2.2.2.2.2.2.2.2.2.2.2.2.2.2.2.2.2.2.2.2.2.2.2.1)
          let x447 : Int := (IntKind.wrap .i64 x446)
          (F31_0 ((v.1.2.2.2.2.2.2.2.2.2.2.1, (v.1.2.2.2.2.2.2.2.2.2.2.2.1, v.1.2.2.2.2.2.2.2.2.2.2.2.2.1)), r445.2)).bind fun r448 =>
          (F32_0 ((3 : Int), r448.2)).bind fun r449 =>
          some ((r444.1, (v.1.2.2.1, (v.1.2.2.2.2.2.2.2.2.2.2.2.2.2.2.2.2.2.2.2.2.2.2.2.2.2.1, (r445.1, (x447, (x443, (r448.1, r449.1))))))), r449.2)
        else
          (F31_0 ((v.1.2.2.2.1, (v.1.2.2.2.2.1, v.1.2.2.2.2.2.1)), v.2)).bind fun r450 =>
          (F32_0 (v.1.2.2.2.2.2.2.2.2.2.2.2.2.2.2.2.2.2.2.2.2.2.2.2.2.2.2.2.1, r450.2)).bind fun r451 =>
          let x452 : Int := (IntKind.wrap .i32 v.1.2.2.2.2.2.2.2.2.2.2.2.2.2.2.2.2.2.2.2.2.2.2.2.2.2.2.2.2.2.1)
          let x453 : Int := (IntKind.wrap .i64 x452)
          (F31_0 ((v.1.2.2.2.2.2.2.2.2.2.2.1, (v.1.2.2.2.2.2.2.2.2.2.2.2.1, v.1.2.2.2.2.2.2.2.2.2.2.2.2.1)), r451.2)).bind fun r454 =>
          (F32_0 ((2 : Int), r454.2)).bind fun r455 =>
          some ((r450.1, (v.1.2.2.1, (v.1.2.2.2.2.2.2.2.2.2.2.2.2.2.2.2.2.2.2.2.2.2.2.2.2.2.1, (r451.1, (x453, (x443, (r454.1, r455.1))))))), r455.2)
      else
        let x456 : Int := (if v.1.2.2.2.2.2.2.2.2.2.2.2.2.2.2.2.2.2.2.2.2.2.2.2.1 > x442 then v.1.2.2.2.2.2.2.2.2.2.2.2.2.2.2.2.2.2.2.2.2.2.2.2.1 else x442)
        bif v.1.2.2.2.2.2.2.2.2.2.2.2.2.2.2.2.2.2.2.2.2.2.2.2.2.1 then
          (F31_0 ((v.1.2.2.2.1, (v.1.2.2.2.2.1, v.1.2.2.2.2.2.1)), v.2)).bind fun r457 =>
          (F32_0 (v.1.2.2.2.2.2.2.2.2.2.2.2.2.2.2.2.2.2.2.2.2.2.2.2.2.2.2.2.1, r457.2)).bind fun r458 =>
          let x459 : Int := (IntKind.wrap .i32 v.1.2.2.2.2.2.2.2.2.2.2.2.2.2.2.2.2.2.2.2.2.2.2.2.2.2.2.2.2.2.1)
          let x460 : Int := (IntKind.wrap .i64 x459)
          (F31_0 ((v.1.2.2.2.2.2.2.2.2.2.2.1, (v.1.2.2.2.2.2.2.2.2.2.2.2.1, v.1.2.2.2.2.2.2.2.2.2.2.2.2.1)), r458.2)).bind fun r461 =>
          (F32_0 ((2 : Int), r461.2)).bind fun r462 =>
          some ((r457.1, (v.1.2.2.1, (v.1.2.2.2.2.2.2.2.2.2.2.2.2.2.2.2.2.2.2.2.2.2.2.2.2.2.1, (r458.1, (x460, (x456, (r461.1, r462.1))))))), r462.2)
        else
          (F31_0 ((v.1.2.2.2.1, (v.1.2.2.2.2.1, v.1.2.2.2.2.2.1)), v.2)).bind fun r463 =>
          (F32_0 (v.1.2.2.2.2.2.2.2.2.2.2.2.2.2.2.2.2.2.2.2.2.2.2.2.2.2.2.2.1, r463.2)).bind fun r464 =>
          let x465 : Int := (IntKind.wrap .i32 v.1.2.2.2.2.2.2.2.2.2.2.2.2.2.2.2.2.2.2.2.2.2.2.2.2.2.2.2.2.2.1)
          let x466 : Int := (IntKind.wrap .i64 x465)
          (F31_0 ((v.1.2.2.2.2.2.2.2.2.2.2.1, (v.1.2.2.2.2.2.2.2.2.2.2.2.1, v.1.2.2.2.2.2.2.2.2.2.2.2.2.1)), r464.2)).bind fun r467 =>
          (F32_0 ((1 : Int), r467.2)).bind fun r468 =>
          some ((r463.1, (v.1.2.2.1, (v.1.2.2.2.2.2.2.2.2.2.2.2.2.2.2.2.2.2.2.2.2.2.2.2.2.2.1, (r464.1, (x466, (x456, (r467.1, r468.1))))))), r468.2)
  else
    let x469 : Int := (if v.1.2.2.2.2.2.2.2.2.2.2.2.2.2.2.2.2.2.1 > x413 then v.1.2.2.2.2.2.2.2.2.2.2.2.2.2.2.2.2.2.1 else x413)
    bif v.1.2.2.2.2.2.2.2.2.2.2.2.2.2.2.2.2.2.2.1 then
      let x470 : Int := (if v.1.2.2.2.2.2.2.2.2.2.2.2.2.2.2.2.2.2.2.2.2.1 > x469 then v.1.2.2.2.2.2.2.2.2.2.2.2.2.2.2.2.2.2.2.2.2.1 else x469)
      bif v.1.2.2.2.2.2.2.2.2.2.2.2.2.2.2.2.2.2.2.2.2.2.1 then
        let x471 : Int := (if v.1.2.2.2.2.2.2.2.2.2.2.2.2.2.2.2.2.2.2.2.2.2.2.2.1 > x470 then v.1.2.2.2.2.2.2.2.2.2.2.2.2.2.2.2.2.2.2.2.2.2.2.2.1 else x470)
        bif v.1.2.2.2.2.2.2.2.2.2.2.2.2.2.2.2.2.2.2.2.2.2.2.2.2.1 then
          (F31_0 ((v.1.2.2.2.1, (v.1.2.2.2.2.1, v.1.2.2.2.2.2.1)), v.2)).bind fun r472 =>
          (F32_0 (v.1.2.2.2.2.2.2.2.2.2.2.2.2.2.2.2.2.2.2.2.2.2.2.2.2.2.2.2.1, r472.2)).bind fun r473 =>
          let x474 : Int := (IntKind.wrap .i32 v.1.2.2.2.2.2.2.2.2.2.2.2.2.2.2.2.2.2.2.2.2.2.2.2.2.2.2.2.2.2.1)
          let x475 : Int := (IntKind.wrap .i64 x474)
          (F31_0 ((v.1.2.2.2.2.2.2.2.2.2.2.1, (v.1.2.2.2.2.2.2.2.2.2.2.2.1, v.1.2.2.2.2.2.2.2.2.2.2.2.2.1)), r473.2)).bind fun r476 =>
          (F32_0 ((3 : Int), r476.2)).bind fun r477 =>
          some ((r472.1, (v.1.2.2.1, (v.1.2.2.2.2.2.2.2.2.2.2.2.2.2.2.2.2.2.2.2.2.2.2.2.2.2.1, (r473.1, (x475, (x471, (r476.1, r477.1))))))), r477.2)
        else
          (F31_0 ((v.1.2.2.2.1, (v.1.2.2.2.2.1, v.1.2.2.2.2.2.1)), v.2)).bind fun r478 =>
          (F32_0 (v.1.2.2.2.2.2.2.2.2.2.2.2.2.2.2.2.2.2.2.2.2.2.2.2.2.2.2.2.1, r478.2)).bind fun r479 =>
          let x480 : Int := (IntKind.wrap .i32 v.1.2.2.2.2.2.2.2.2.2.2.2.2.2.2.2.2.2.2.2.2.2.2.2.2.2.2.2.2.2.1)
          let x481 : Int := (IntKind.wrap .i64 x480)
          (F31_0 ((v.1.2.2.2.2.2.2.2.2.2.2.1, (v.1.2.2.2.2.2.2.2.2.2.2.2.1, v.1.2.2.2.2.2.2.2.2.2.2.2.2.1)), r479.2)).bind fun r482 =>
          (F32_0 ((2 : Int), r482.2)).bind fun r483 =>
          some ((r478.1, (v.1.2.2.1, (v.1.2.2.2.2.2.2.2.2.2.2.2.2.2.2.2.2.2.2.2.2.2.2.2.2.2.1, (r479.1, (x481, (x471, (r482.1, r483.1))))))), r483.2)
      else
        let x484 : Int := (if v.1.2.2.2.2.2.2.2.2.2.2.2.2.2.2.2.2.2.2.2.2.2.2.2.1 > x470 then v.1.2.2.2.2.2.2.2.2.2.2.2.2.2.2.2.2.2.2.2.2.2.2.2.1 else x470)
        bif v.1.2.2.2.2.2.2.2.2.2.2.2.2.2.2.2.2.2.2.2.2.2.2.2.2.1 then
          (F31_0 ((v.1.2.2.2.1, (v.1.2.2.2.2.1, v.1.2.2.2.2.2.1)), v.2)).bind fun r485 =>
          (F32_0 (v.1.2.2.2.2.2.2.2.2.2.2.2.2.2.2.2.2.2.2.2.2.2.2.2.2.2.2.2.1, r485.2)).bind fun r486 =>
          let x487 : Int := (IntKind.wrap .i32 v.1.2.2.2.2.2.2.2.2.2.2.2.2.2.2.2.2.2.2.2.2.2.2.2.2.2.2.2.2.2.1)
          let x488 : Int := (IntKind.wrap .i64 x487)
          (F31_0 ((v.1.2.2.2.2.2.2.2.2.2.2.1, (v.1.2.2.2.2.2.2.2.2.2.2.2.1, v.1.2.2.2.2.2.2.2.2.2.2.2.2.1)), r486.2)).bind fun r489 =>
          (F32_0 ((2 : Int), r489.2)).bind fun r490 =>
          some ((r485.1, (v.1.2.2.1, (v.1.2.2.2.2.2.2.2.2.2.2.2.2.2.2.2.2.2.2.2.2.2.2.2.2.2.1, (r486.1, (x488, (x484, (r489.1, r490.1))))))), r490.2)
        else
          (F31_0 ((v.1.2.2.2.1, (v.1.2.2.2.2.1, v.1.2.2.2.2.2.1)), v.2)).bind fun r491 =>
          (F32_0 (v.1.2.2.2.2.2.2.2.2.2.2.2.2.2.2.2.2.2.2.2.2.2.2.2.2.2.2.2.1, r491.2)).bind fun r492 =>
          let x493 : Int := (IntKind.wrap .i32 v.1.2.2.2.2.2.2.2.2.2.2.2.2.2.2.2.2.2.2.2.2.2.2.2.2.2.2.2.2.2.1)
          let x494 : Int := (IntKind.wrap .i64 x493)
          (F31_0 ((v.1.2.2.2.2.2.2.2.2.2.2.1, (v.1.2.2.2.2.2.2.2.2.2.2.2.1, v.1.2.2.2.2.2.2.2.2.2.2.2.2.1)), r492.2)).bind fun r495 =>
          (F32_0 ((1 : Int), r495.2)).bind fun r496 =>
          some ((r491.1, (v.1.2.2.1, (v.1.2.2.2.2.2.2.2.2.2.2.2.2.2.2.2.2.2.2.2.2.2.2.2.2.2.1, (r492.1, (x494, (x484, (r495.1, r496.1))))))), r496.2)
    else
      let x497 : Int := (if v.1.2.2.2.2.2.2.2.2.2.2.2.2.2.2.2.2.2.2.2.2.1 > x469 then v.1.2.2.2.2.2.2.2.2.2.2.2.2.2.2.2.2.2.2.2.2.1 else x469)
      bif v.1.2.2.2.2.2.2.2.2.2.2.2.2.2.2.2.2.2.2.2.2.2.1 then
        let x498 : Int := (if v.1.2.2.2.2.2.2.2.2.2.2.2.2.2.2.2.2.2.2.2.2.2.2.2.1 > x497 then v.1.2.2.2.2.2.2.2.2.2.2.2.2.2.2.2.2.2.2.2.2.2.2.2.1 else x497)
        bif v.1.2.2.2.2.2.2.2.2.2.2.2.2.2.2.2.2.2.2.2.2.2.2.2.2.1 then
          (F31_0 ((v.1.2.2.2.1, (v.1.2.2.2.2.1, v.1.2.2.2.2.2.1)), v.2)).bind fun r499 =>
          (F32_0 (v.1.2.2.2.2.2.2.2.2.2.2.2.2.2.2.2.2.2.2.2.2.2.2.2.2.2.2.2.1, r499.2)).bind fun r500 =>
          let x501 : Int := (IntKind.wrap .i32 v.1.2.2.2.2.2.2.2.2.2.2.2.2.2.2.2.2.2.2.2.2.2.2.2.2.2.2.2.2.2.1)
          let x502 : Int := (IntKind.wrap .i64 x501)
          (F31_0 ((v.1.2.2.2.2.2.2.2.2.2.2.1, (v.1.2.2.2.2.2.2.2.2.2.2.2.1, v.1.2.2.2.2.2.2.2.2.2.2.2.2.1)), r500.2)).bind fun r503 =>
          (F32_0 ((2 : Int), r503.2)).bind fun r504 =>
          some ((r499.1, (v.1.2.2.1, (v.1.2.2.2.2.2.2.2.2.2.2.2.2.2.2.2.2.2.2.2.2.2.2.2.2.2.1, (r500.1, (x502, (x498, (r503.1, r504.1))))))), r504.2)
        else
          (F31_0 ((v.1.2.2.2.1, (v.1.2.2.2.2.1, v.1.2.2.2.2.2.1)), v.2)).bind fun r505 =>
          (F32_0 (v.1.2.2.2.2.2.2.2.2.2.2.2.2.2.2.2.2.2.2.2.2.2.2.2.2.2.2.2.1, r505.2)).bind fun r506 =>
          let x507 : Int := (IntKind.wrap .i32 v.1.2.2.2.2.2.2.2.2.2.2.2.2.2.2.2.2.2.2.2.2.2.2.2.2.2.2.2.2.2.1)
          let x508 : Int := (IntKind.wrap .i64 x507)
          (F31_0 ((v.1.2.2.2.2.2.2.2.2.2.2.1, (v.1.2.2.2.2.2.2.2.2.2.2.2.1, v.1.2.2.2.2.2.2.2.2.2.2.2.2.1)), r506.2)).bind fun r509 =>
          (F32_0 ((1 : Int), r509.2)).bind fun r510 =>
          some ((r505.1, (v.1.2.2.1, (v.1.2.2.2.2.2.2.2.2.2.2.2.2.2.2.2.2.2.2.2.2.2.2.2.2.2.1, (r506.1, (x508, (x498, (r509.1, r510.1))))))), r510.2)
      else
        let x511 : Int := (if v.1.2.2.2.2.2.2.2.2.2.2.2.2.2.2.2.2.2.2.2.2.2.2.2.1 > x497 then v.1.2.2.2.2.2.2.2.2.2.2.2.2.2.2.2.2.2.2.2.2.2.2.2.1 else x497)
        bif v.1.2.2.2.2.2.2.2.2.2.2.2.2.2.2.2.2.2.2.2.2.2.2.2.2.1 then
          (F31_0 ((v.1.2.2.2.1, (v.1.2.2.2.2.1, v.1.2.2.2.2.2.1)), v.2)).bind fun r512 =>
          (F32_0 (v.1.2.2.2.2.2.2.2.2.2.2.2.2.2.2.2.2.2.2.2.2.2.2.2.2.2.2.2.1, r512.2)).bind fun r513 =>
          let x514 : Int := (IntKind.wrap .i32 v.1.2.2.2.2.2.2.2.2.2.2.2.2.2.2.2.2.2.2.2.2.2.2.2.2.2.2.2.2.2.1)
          let x515 : Int := (IntKind.wrap .i64 x514)
          (F31_0 ((v.1.2.2.2.2.2.2.2.2.2.2.1, (v.1.2.2.2.2.2.2.2.2.2.2.2.1, v.1.2.2.2.2.2.2.2.2.2.2.2.2.1)), r513.2)).bind fun r516 =>
          (F32_0 ((1 : Int), r516.2)).bind fun r517 =>
          some ((r512.1, (v.1.2.2.1, (v.1.2.2.2.2.2.2.2.2.2.2.2.2.2.2.2.2.2.2.2.2.2.2.2.2.2.1, (r513.1, (x515, (x511, (r516.1, r517.1))))))), r517.2)
        else
          (F31_0 ((v.1.2.2.2.1, (v.1.2.2.2.2.1, v.1.2.2.2.2.2.1)), v.2)).bind fun r518 =>
          (F32_0 (v.1.2.2.2.2.2.2.2.2.2.2.2.2.2.2.2.2.2.2.2.2.2.2.2.2.2.2.2.1, r518.2)).bind fun r519 =>
          let x520 : Int := (IntKind.wrap .i32 v.1.2.2.2.2.2.2.2.2.2.2.2.2.2.2.2.2.2.2.2.2.2.2.2.2.2.2.2.2.2.1)
          let x521 : Int := (IntKind.wrap .i64 x520)
          (F31_0 ((v.1.2.2.2.2.2.2.2.2.2.2.1, (v.1.2.2.2.2.2.2.2.2.2.2.2.1, v.1.2.2.2.2.2.2.2.2.2.2.2.2.1)), r519.2)).bind fun r522 =>
          (F32_0 ((0 : Int), r522.2)).bind fun r523 =>
          some ((r518.1, (v.1.2.2.1, (v.1.2.2.2.2.2.2.2.2.2.2.2.2.2.2.2.2.2.2.2.2.2.2.2.2.2.1, (r519.1, (x521, (x511, (r522.1, r523.1))))))), r523.2)

noncomputable def k15_0 : List (Known Try.prog E) := [Known.of envOk [5, 9] [(.ptr 0 0 52 [.keep]), (.agg [.keep, .keep, .keep])] v31_0 F31_0 w31_0 ok31_0, Known.of envOk [5, 1] [(.ptr 0 0 52 [.keep]), .keep] v32_0 F32_0 w32_0 ok32_0]
noncomputable def L15_0 (n id : Nat) (st : St G) : Option ((Int × Int × Int × Int × Int × Int × Int × Int) × Bool) := none
set_option maxRecDepth 100000 in
theorem e15_0 (n : Nat) (v : (Int × Int × Int × Int × Int × Int × Int × Int × Int × Int × Int × Int × Int × Int × Int × Bool × Int × Int × Bool × Int × Int × Bool × Int × Int × Bool × Int × Bool × Int × Int × Int × Int × Int × Bool × Bool × Int × Int × Int × Int × Int × Bool × Bool) × Bool) : ev Try.prog E (oracle k15_0) Try.f15.ntmps (fun x => mem x []) (L15_0 n) (finA Try.prog E Try.f15.results.toList [(.ptr 0 0 52 [.keep])] w15_0.alts) 4000 [.code (Try.f15.body.getD .skip)] (argSt (v15_0.enc v)) = F15_0 v := by kernel_rfl
theorem ok15_0 : FnOk Try.prog E 15 v15_0.enc F15_0 w15_0.enc :=
  fn_known (fn := Try.f15) (c := (Try.f15.body.getD .skip)) Try.func15 (by kernel_rfl) rfl envOk (oracle_ok k15_0) mixed v15_0 F15_0 w15_0 [(.ptr 0 0 52 [.keep])] [] 4000 L15_0 (by kernel_rfl)
    (fun _ h => nomatch h) (fun v _ h => ⟨0, (e15_0 _ v).trans h⟩) (fun _ => by kernel_rfl) (fun _ => by kernel_rfl) (fun _ _ => by kernel_rfl)
/- chicane/chicaneref01.Size -/
abbrev A90_0 : Type := Int
abbrev R90_0 : Type := Int
def v90_0 : Pk G Int := (Pk.fst (pk (Sh.fst (Sh.cons (Sh.int .i64) Sh.nil)) Sh.hnil))
def w90_0 : Wk G Int := (Wk.one [.keep] (Pk.fst (pk (Sh.fst (Sh.cons (Sh.int .u64) Sh.nil)) Sh.hnil)))
def F90_0 (v : Int) : Option Int :=
  bif (decide (v < (0 : Int))) then
    let x539 : Int := (IntKind.wrap .i64 (v + (1 : Int)))
    let x540 : Int := (IntKind.wrap .i64 (0 - x539))
    let x541 : Int := (IntKind.wrap .u64 x540)
    let x542 : Int := (IntKind.wrap .u64 (x541 + (1 : Int)))
    some (x542)
  else
    let x543 : Int := (IntKind.wrap .u64 v)
    some (x543)

noncomputable def k90_0 : List (Known Try.prog E) := []
noncomputable def L90_0 (n id : Nat) (st : St G) : Option Int := none
set_option maxRecDepth 100000 in
theorem e90_0 (n : Nat) (v : Int) : ev Try.prog E (oracle k90_0) Try.f90.ntmps (fun x => mem x []) (L90_0 n) (finA Try.prog E Try.f90.results.toList [] w90_0.alts) 4000 [.code (Try.f90.body.getD .skip)] (argSt (v90_0.enc v)) = F90_0 v := by kernel_rfl
theorem ok90_0 : FnOk Try.prog E 90 v90_0.enc F90_0 w90_0.enc :=
  fn_known (fn := Try.f90) (c := (Try.f90.body.getD .skip)) Try.func90 (by kernel_rfl) rfl envOk (oracle_ok k90_0) mixed v90_0 F90_0 w90_0 [] [] 4000 L90_0 (by kernel_rfl)
    (fun _ h => nomatch h) (fun v _ h => ⟨0, (e90_0 _ v).trans h⟩) (fun _ => by kernel_rfl) (fun _ => by kernel_rfl) (fun _ _ => by kernel_rfl)
/- chicane/chicaneref01.low -/
abbrev A106_0 : Type := Int
abbrev R106_0 : Type := Int
def v106_0 : Pk G Int := (Pk.fst (pk (Sh.fst (Sh.cons (Sh.int .u64) Sh.nil)) Sh.hnil))
def w106_0 : Wk G Int := (Wk.one [.keep] (Pk.fst (pk (Sh.fst (Sh.cons (Sh.int .u64) Sh.nil)) Sh.hnil)))
def F106_0 (v : Int) : Option Int :=
  let x548 : Int := (Int.tmod v (4294967296 : Int))
  some (x548)

noncomputable def k106_0 : List (Known Try.prog E) := []
noncomputable def L106_0 (n id : Nat) (st : St G) : Option Int := none
set_option maxRecDepth 100000 in
theorem e106_0 (n : Nat) (v : Int) : ev Try.prog E (oracle k106_0) Try.f106.ntmps (fun x => mem x []) (L106_0 n) (finA Try.prog E Try.f106.results.toList [] w106_0.alts) 4000 [.code (Try.f106.body.getD .skip)] (argSt (v106_0.enc v)) = F106_0 v := by kernel_rfl
theorem ok106_0 : FnOk Try.prog E 106 v106_0.enc F106_0 w106_0.enc :=
  fn_known (fn := Try.f106) (c := (Try.f106.body.getD .skip)) Try.func106 (by kernel_rfl) rfl envOk (oracle_ok k106_0) mixed v106_0 F106_0 w106_0 [] [] 4000 L106_0 (by kernel_rfl)
    (fun _ h => nomatch h) (fun v _ h => ⟨0, (e106_0 _ v).trans h⟩) (fun _ => by kernel_rfl) (fun _ => by kernel_rfl) (fun _ _ => by kernel_rfl)
/- chicane/chicaneref01.Zero -/
abbrev A104_0 : Type := Bool × Int × Int × Int × Int
abbrev R104_0 : Type := Bool
def v104_0 : Pk G (Bool × Int × Int × Int × Int) := (Pk.fst (pk (Sh.fst (Sh.cons (Sh.agg (Sh.cons Sh.bool (Sh.cons (Sh.int .u64) (Sh.cons (Sh.int .u64) (Sh.cons (Sh.int .u64) (Sh.fst (Sh.cons (Sh.int .u64) Sh.nil))))))) Sh.nil)) Sh.hnil))
def w104_0 : Wk G Bool := (Wk.one [.keep] (Pk.fst (pk (Sh.fst (Sh.cons Sh.bool Sh.nil)) Sh.hnil)))
def F104_0 (v : Bool × Int × Int × Int × Int) : Option Bool :=
  bif (v.2.1 == (0 : Int)) then
    bif (v.2.2.1 == (0 : Int)) then
      bif (v.2.2.2.1 == (0 : Int)) then
        some (v.2.2.2.2 == (0 : Int))
      else
        some (false)
    else
      some (false)
  else
    some (false)

noncomputable def k104_0 : List (Known Try.prog E) := []
noncomputable def L104_0 (n id : Nat) (st : St G) : Option Bool := none
set_option maxRecDepth 100000 in
theorem e104_0 (n : Nat) (v : Bool × Int × Int × Int × Int) : ev Try.prog E (oracle k104_0) Try.f104.ntmps (fun x => mem x []) (L104_0 n) (finA Try.prog E Try.f104.results.toList [] w104_0.alts) 4000 [.code (Try.f104.body.getD .skip)] (argSt (v104_0.enc v)) = F104_0 v := by kernel_rfl
theorem ok104_0 : FnOk Try.prog E 104 v104_0.enc F104_0 w104_0.enc :=
  fn_known (fn := Try.f104) (c := (Try.f104.body.getD .skip)) Try.func104 (by kernel_rfl) rfl envOk (oracle_ok k104_0) mixed v104_0 F104_0 w104_0 [] [] 4000 L104_0 (by kernel_rfl)
    (fun _ h => nomatch h) (fun v _ h => ⟨0, (e104_0 _ v).trans h⟩) (fun _ => by kernel_rfl) (fun _ => by kernel_rfl) (fun _ _ => by kernel_rfl)
/- chicane/chicaneref01.Mul -/
abbrev A82_0 : Type := Int × Int
abbrev R82_0 : Type := Bool × Int × Int × Int × Int
def v82_0 : Pk G (Int × Int) := (Pk.fst (pk (Sh.cons (Sh.int .i64) (Sh.fst (Sh.cons (Sh.int .i64) Sh.nil))) Sh.hnil))
def w82_0 : Wk G (Bool × Int × Int × Int × Int) := (Wk.one [(.agg [.keep, .keep, .keep, .keep, .keep])] (Pk.fst (pk (Sh.fst (Sh.cons (Sh.agg (Sh.cons Sh.bool (Sh.cons (Sh.int .u64) (Sh.cons (Sh.int .u64) (Sh.cons (Sh.int .u64) (Sh.fst (Sh.cons (Sh.int .u64) Sh.nil))))))) Sh.nil)) Sh.hnil)))
def c82_0_7 : Pk G (Int × (Bool × Int × Int × Int × Int) × (Int × Int) × (Int × Int) × Bool × Int × Int × Int × Int) := (pk (Sh.snd (Sh.cons (Sh.ptr 0 0) (Sh.snd (Sh.cons (Sh.ptr 1 0) (Sh.snd (Sh.cons (Sh.ptr 2 0) (Sh.snd (Sh.cons (Sh.ptr 3 0) (Sh.fst (Sh.cons (Sh.int .i64) Sh.nil)))))))))) (Sh.hfix 3 146 (Sh.cons Sh.bool (Sh.cons (Sh.int .u64) (Sh.cons (Sh.int .u64) (Sh.cons (Sh.int .u64) (Sh.fst (Sh.cons (Sh.int .u64) Sh.nil)))))) (Sh.hfix 2 178 (Sh.cons (Sh.int .u64) (Sh.fst (Sh.cons (Sh.int .u64) Sh.nil))) (Sh.hfix 1 178 (Sh.cons (Sh.int .u64) (Sh.fst (Sh.cons (Sh.int .u64) Sh.nil))) (Sh.fst (Sh.hfix 0 146 (Sh.cons Sh.bool (Sh.cons (Sh.int .u64) (Sh.cons (Sh.int .u64) (Sh.cons (Sh.int .u64) (Sh.fst (Sh.cons (Sh.int .u64) Sh.nil)))))) Sh.hnil))))))
def c82_0_10 : Pk G ((Int × Int) × (Bool × Int × Int × Int × Int) × (Int × Int) × (Int × Int) × Bool × Int × Int × Int × Int) := (pk (Sh.snd (Sh.cons (Sh.ptr 0 0) (Sh.snd (Sh.cons (Sh.ptr 1 0) (Sh.snd (Sh.cons (Sh.ptr 2 0) (Sh.snd (Sh.cons (Sh.ptr 3 0) (Sh.cons (Sh.int .i64) (Sh.fst (Sh.cons (Sh.int .i64) Sh.nil))))))))))) (Sh.hfix 3 146 (Sh.cons Sh.bool (Sh.cons (Sh.int .u64) (Sh.cons (Sh.int .u64) (Sh.cons (Sh.int .u64) (Sh.fst (Sh.cons (Sh.int .u64) Sh.nil)))))) (Sh.hfix 2 178 (Sh.cons (Sh.int .u64) (Sh.fst (Sh.cons (Sh.int .u64) Sh.nil))) (Sh.hfix 1 178 (Sh.cons (Sh.int .u64) (Sh.fst (Sh.cons (Sh.int .u64) Sh.nil))) (Sh.fst (Sh.hfix 0 146 (Sh.cons Sh.bool (Sh.cons (Sh.int .u64) (Sh.cons (Sh.int .u64) (Sh.cons (Sh.int .u64) (Sh.fst (Sh.cons (Sh.int .u64) Sh.nil)))))) Sh.hnil))))))
def c82_0_15 : Pk G ((Int × Int × Int × Int) × (Bool × Int × Int × Int × Int) × (Int × Int) × (Int × Int) × Bool × Int × Int × Int × Int) := (pk (Sh.snd (Sh.cons (Sh.ptr 0 0) (Sh.snd (Sh.cons (Sh.ptr 1 0) (Sh.snd (Sh.cons (Sh.ptr 2 0) (Sh.snd (Sh.cons (Sh.ptr 3 0) (Sh.cons (Sh.int .i64) (Sh.cons (Sh.int .i64) (Sh.cons (Sh.int .u64) (Sh.fst (Sh.cons (Sh.int .i64) Sh.nil))))))))))))) (Sh.hfix 3 146 (Sh.cons Sh.bool (Sh.cons (Sh.int .u64) (Sh.cons (Sh.int .u64) (Sh.cons (Sh.int .u64) (Sh.fst (Sh.cons (Sh.int .u64) Sh.nil)))))) (Sh.hfix 2 178 (Sh.cons (Sh.int .u64) (Sh.fst (Sh.cons (Sh.int .u64) Sh.nil))) (Sh.hfix 1 178 (Sh.cons (Sh.int .u64) (Sh.fst (Sh.cons (Sh.int .u64) Sh.nil))) (Sh.fst (Sh.hfix 0 146 (Sh.cons Sh.bool (Sh.cons (Sh.int .u64) (Sh.cons (Sh.int .u64) (Sh.cons (Sh.int .u64) (Sh.fst (Sh.cons (Sh.int .u64) Sh.nil)))))) Sh.hnil))))))
def B82_0_7 (K : ((Int × (Bool × Int × Int × Int × Int) × (Int × Int) × (Int × Int) × Bool × Int × Int × Int × Int) → Option (Bool × Int × Int × Int × Int)) × (((Int × Int) × (Bool × Int × Int × Int × Int) × (Int × Int) × (Int × Int) × Bool × Int × Int × Int × Int) → Option (Bool × Int × Int × Int × Int)) × (((Int × Int × Int × Int) × (Bool × Int × Int × Int × Int) × (Int × Int) × (Int × Int) × Bool × Int × Int × Int × Int) → Option (Bool × Int × Int × Int × Int))) (v : Int × (Bool × Int × Int × Int × Int) × (Int × Int) × (Int × Int) × Bool × Int × Int × Int × Int) : Option (Bool × Int × Int × Int × Int) :=
  bif (decide (v.1 < (2 : Int))) then
    K.2.1 ((v.1, (0 : Int)), v.2)
  else
    (F104_0 v.2.1).bind fun r641 =>
    bif r641 then
      some (false, v.2.1.2)
    else
      some (v.2.1)

def B82_0_10 (K : ((Int × (Bool × Int × Int × Int × Int) × (Int × Int) × (Int × Int) × Bool × Int × Int × Int × Int) → Option (Bool × Int × Int × Int × Int)) × (((Int × Int) × (Bool × Int × Int × Int × Int) × (Int × Int) × (Int × Int) × Bool × Int × Int × Int × Int) → Option (Bool × Int × Int × Int × Int)) × (((Int × Int × Int × Int) × (Bool × Int × Int × Int × Int) × (Int × Int) × (Int × Int) × Bool × Int × Int × Int × Int) → Option (Bool × Int × Int × Int × Int))) (v : (Int × Int) × (Bool × Int × Int × Int × Int) × (Int × Int) × (Int × Int) × Bool × Int × Int × Int × Int) : Option (Bool × Int × Int × Int × Int) :=
  bif (decide (v.1.2 < (2 : Int))) then
    (idx v.1.1 2).bind fun (x642 : Nat) =>
    (idx v.1.2 2).bind fun (x643 : Nat) =>
    let x644 : Int := (IntKind.wrap .u64 ((List.getD [v.2.2.2.1.1, v.2.2.2.1.2] x642 0) * (List.getD [v.2.2.1.1, v.2.2.1.2] x643 0)))
    let x645 : Int := (IntKind.wrap .i64 (v.1.1 + v.1.2))
    K.2.2 ((v.1.1, (v.1.2, (x644, x645))), v.2)
  else
    let x646 : Int := (IntKind.wrap .i64 (v.1.1 + (1 : Int)))
    K.1 (x646, v.2)

def B82_0_15 (K : ((Int × (Bool × Int × Int × Int × Int) × (Int × Int) × (Int × Int) × Bool × Int × Int × Int × Int) → Option (Bool × Int × Int × Int × Int)) × (((Int × Int) × (Bool × Int × Int × Int × Int) × (Int × Int) × (Int × Int) × Bool × Int × Int × Int × Int) → Option (Bool × Int × Int × Int × Int)) × (((Int × Int × Int × Int) × (Bool × Int × Int × Int × Int) × (Int × Int) × (Int × Int) × Bool × Int × Int × Int × Int) → Option (Bool × Int × Int × Int × Int))) (v : (Int × Int × Int × Int) × (Bool × Int × Int × Int × Int) × (Int × Int) × (Int × Int) × Bool × Int × Int × Int × Int) : Option (Bool × Int × Int × Int × Int) :=
  bif (decide (v.1.2.2.2 < (4 : Int))) then
    bif (decide (v.1.2.2.1 > (0 : Int))) then
      (idx v.1.2.2.2 4).bind fun (x647 : Nat) =>
      (F106_0 v.1.2.2.1).bind fun r648 =>
      let x649 : Int := (IntKind.wrap .u64 ((List.getD [v.2.1.2.1, v.2.1.2.2.1, v.2.1.2.2.2.1, v.2.1.2.2.2.2] x647 0) + r648))
      (F106_0 x649).bind fun r650 =>
      (idx v.1.2.2.2 4).bind fun (x651 : Nat) =>
      let x652 : Int := (IntKind.wrap .u64 (Int.tdiv v.1.2.2.1 (4294967296 : Int)))
      let x653 : Int := (IntKind.wrap .u64 (Int.tdiv x649 (4294967296 : Int)))
      let x654 : Int := (IntKind.wrap .u64 (x652 + x653))
      let x655 : Int := (IntKind.wrap .i64 (v.1.2.2.2 + (1 : Int)))
      K.2.2 ((v.1.1, (v.1.2.1, (x654, x655))), ((v.2.1.1, ((if x651 = 0 then r650 else v.2.1.2.1), ((if x651 = 1 then r650 else v.2.1.2.2.1), ((if x651 = 2 then r650 else v.2.1.2.2.2.1), (if x651 = 3 then r650 else v.2.1.2.2.2.2))))), v.2.2))
    else
      let x656 : Int := (IntKind.wrap .i64 (v.1.2.1 + (1 : Int)))
      K.2.1 ((v.1.1, x656), v.2)
  else
    let x657 : Int := (IntKind.wrap .i64 (v.1.2.1 + (1 : Int)))
    K.2.1 ((v.1.1, x657), v.2)

def E82_0 (K : ((Int × (Bool × Int × Int × Int × Int) × (Int × Int) × (Int × Int) × Bool × Int × Int × Int × Int) → Option (Bool × Int × Int × Int × Int)) × (((Int × Int) × (Bool × Int × Int × Int × Int) × (Int × Int) × (Int × Int) × Bool × Int × Int × Int × Int) → Option (Bool × Int × Int × Int × Int)) × (((Int × Int × Int × Int) × (Bool × Int × Int × Int × Int) × (Int × Int) × (Int × Int) × Bool × Int × Int × Int × Int) → Option (Bool × Int × Int × Int × Int))) (v : Int × Int) : Option (Bool × Int × Int × Int × Int) :=
  (F90_0 v.1).bind fun r635 =>
  (F90_0 v.2).bind fun r636 =>
  (F106_0 r635).bind fun r637 =>
  let x638 : Int := (IntKind.wrap .u64 (Int.tdiv r635 (4294967296 : Int)))
  (F106_0 r636).bind fun r639 =>
  let x640 : Int := (IntKind.wrap .u64 (Int.tdiv r636 (4294967296 : Int)))
  K.1 ((0 : Int), (((!((decide (v.1 < (0 : Int))) == (decide (v.2 < (0 : Int))))), ((0 : Int), ((0 : Int), ((0 : Int), (0 : Int))))), ((r639, x640), ((r637, x638), (false, ((0 : Int), ((0 : Int), ((0 : Int), (0 : Int)))))))))

def K82_0 : Nat → ((Int × (Bool × Int × Int × Int × Int) × (Int × Int) × (Int × Int) × Bool × Int × Int × Int × Int) → Option (Bool × Int × Int × Int × Int)) × (((Int × Int) × (Bool × Int × Int × Int × Int) × (Int × Int) × (Int × Int) × Bool × Int × Int × Int × Int) → Option (Bool × Int × Int × Int × Int)) × (((Int × Int × Int × Int) × (Bool × Int × Int × Int × Int) × (Int × Int) × (Int × Int) × Bool × Int × Int × Int × Int) → Option (Bool × Int × Int × Int × Int))
  | 0 => (fun _ => none, fun _ => none, fun _ => none)
  | n + 1 => (B82_0_7 (K82_0 n), B82_0_10 (K82_0 n), B82_0_15 (K82_0 n))
def fuel82_0 (v : Int × Int) : Nat := 1000
def F82_0 (v : Int × Int) : Option (Bool × Int × Int × Int × Int) := E82_0 (K82_0 (fuel82_0 v)) v
noncomputable def k82_0 : List (Known Try.prog E) := [Known.of envOk [1] [.keep] v90_0 F90_0 w90_0 ok90_0, Known.of envOk [1] [.keep] v106_0 F106_0 w106_0 ok106_0, Known.of envOk [9] [(.agg [.keep, .keep, .keep, .keep, .keep])] v104_0 F104_0 w104_0 ok104_0]
def s82_0_15 : List (Nat × Pat) := [(4, (.ptr 0 0 146 [.keep, .keep, .keep, .keep, .keep])), (7, (.ptr 1 0 178 [.keep, .keep])), (8, (.ptr 2 0 178 [.keep, .keep])), (9, (.ptr 3 0 146 [.keep, .keep, .keep, .keep, .keep])), (10, .keep), (11, .keep), (13, .keep), (14, .keep)]
def s82_0_10 : List (Nat × Pat) := [(4, (.ptr 0 0 146 [.keep, .keep, .keep, .keep, .keep])), (7, (.ptr 1 0 178 [.keep, .keep])), (8, (.ptr 2 0 178 [.keep, .keep])), (9, (.ptr 3 0 146 [.keep, .keep, .keep, .keep, .keep])), (10, .keep), (11, .keep)]
def s82_0_7 : List (Nat × Pat) := [(4, (.ptr 0 0 146 [.keep, .keep, .keep, .keep, .keep])), (7, (.ptr 1 0 178 [.keep, .keep])), (8, (.ptr 2 0 178 [.keep, .keep])), (9, (.ptr 3 0 146 [.keep, .keep, .keep, .keep, .keep])), (10, .keep)]
noncomputable def L82_0 (n id : Nat) (st : St G) : Option (Bool × Int × Int × Int × Int) := match Nat.beq id 7 with | true => cutK Try.prog s82_0_7 [] c82_0_7.dec (K82_0 n).1 st | false => match Nat.beq id 10 with | true => cutK Try.prog s82_0_10 [] c82_0_10.dec (K82_0 n).2.1 st | false => match Nat.beq id 15 with | true => cutK Try.prog s82_0_15 [] c82_0_15.dec (K82_0 n).2.2 st | false => none
set_option maxRecDepth 100000 in
theorem e82_0 (n : Nat) (v : Int × Int) : ev Try.prog E (oracle k82_0) Try.f82.ntmps (fun x => mem x [7, 10, 15]) (L82_0 n) (finA Try.prog E Try.f82.results.toList [] w82_0.alts) 4000 [.code (Try.f82.body.getD .skip)] (argSt (v82_0.enc v)) = E82_0 (K82_0 n) v := by kernel_rfl
set_option maxRecDepth 100000 in
theorem b82_0_7 (n : Nat) (v : Int × (Bool × Int × Int × Int × Int) × (Int × Int) × (Int × Int) × Bool × Int × Int × Int × Int) : evCut Try.prog E (oracle k82_0) Try.f82.ntmps (fun x => mem x [7, 10, 15]) (L82_0 n) (finA Try.prog E Try.f82.results.toList [] w82_0.alts) 4000 (todoAt (Try.f82.body.getD .skip) 7) (cutSt s82_0_7 (c82_0_7.enc v)) = B82_0_7 (K82_0 n) v := by kernel_rfl
set_option maxRecDepth 100000 in
theorem b82_0_10 (n : Nat) (v : (Int × Int) × (Bool × Int × Int × Int × Int) × (Int × Int) × (Int × Int) × Bool × Int × Int × Int × Int) : evCut Try.prog E (oracle k82_0) Try.f82.ntmps (fun x => mem x [7, 10, 15]) (L82_0 n) (finA Try.prog E Try.f82.results.toList [] w82_0.alts) 4000 (todoAt (Try.f82.body.getD .skip) 10) (cutSt s82_0_10 (c82_0_10.enc v)) = B82_0_10 (K82_0 n) v := by kernel_rfl
set_option maxRecDepth 100000 in
theorem b82_0_15 (n : Nat) (v : (Int × Int × Int × Int) × (Bool × Int × Int × Int × Int) × (Int × Int) × (Int × Int) × Bool × Int × Int × Int × Int) : evCut Try.prog E (oracle k82_0) Try.f82.ntmps (fun x => mem x [7, 10, 15]) (L82_0 n) (finA Try.prog E Try.f82.results.toList [] w82_0.alts) 4000 (todoAt (Try.f82.body.getD .skip) 15) (cutSt s82_0_15 (c82_0_15.enc v)) = B82_0_15 (K82_0 n) v := by kernel_rfl
theorem ok82_0 : FnOk Try.prog E 82 v82_0.enc F82_0 w82_0.enc :=
  fn_known (fn := Try.f82) (c := (Try.f82.body.getD .skip)) Try.func82 (by kernel_rfl) rfl envOk (oracle_ok k82_0) mixed v82_0 F82_0 w82_0 [] [7, 10, 15] 4000 L82_0 (by kernel_rfl)
    (List.forall_mem_cons.2 ⟨⟨_, s82_0_7, c82_0_7.dec, c82_0_7.enc, fun n => (K82_0 n).1, c82_0_7.ok, fun _ _ => rfl, fun _ => rfl, fun n v _ h => (b82_0_7 n v).trans h⟩, List.forall_mem_cons.2 ⟨⟨_, s82_0_10, c82_0_10.dec, c82_0_10.enc, fun n => (K82_0 n).2.1, c82_0_10.ok, fun _ _ => rfl, fun _ => rfl, fun n v _ h => (b82_0_10 n v).trans h⟩, List.forall_mem_cons.2 ⟨⟨_, s82_0_15, c82_0_15.dec, c82_0_15.enc, fun n => (K82_0 n).2.2, c82_0_15.ok, fun _ _ => rfl, fun _ => rfl, fun n v _ h => (b82_0_15 n v).trans h⟩, fun _ h => (nomatch h)⟩⟩⟩) (fun v _ h => ⟨fuel82_0 v, (e82_0 _ v).trans h⟩) (fun _ => by kernel_rfl) (fun _ => by kernel_rfl) (fun _ _ => by kernel_rfl)
/- chicane/chicaneref01.plus -/
abbrev A101_0 : Type := (Int × Int × Int × Int) × Int × Int × Int × Int
abbrev R101_0 : Type := (Int × Int × Int × Int) × Int
def v101_0 : Pk G ((Int × Int × Int × Int) × Int × Int × Int × Int) := (Pk.fst (pk (Sh.cons (Sh.agg (Sh.cons (Sh.int .u64) (Sh.cons (Sh.int .u64) (Sh.cons (Sh.int .u64) (Sh.fst (Sh.cons (Sh.int .u64) Sh.nil)))))) (Sh.fst (Sh.cons (Sh.agg (Sh.cons (Sh.int .u64) (Sh.cons (Sh.int .u64) (Sh.cons (Sh.int .u64) (Sh.fst (Sh.cons (Sh.int .u64) Sh.nil)))))) Sh.nil))) Sh.hnil))
def w101_0 : Wk G ((Int × Int × Int × Int) × Int) := (Wk.one [(.agg [.keep, .keep, .keep, .keep]), .keep] (Pk.fst (pk (Sh.cons (Sh.agg (Sh.cons (Sh.int .u64) (Sh.cons (Sh.int .u64) (Sh.cons (Sh.int .u64) (Sh.fst (Sh.cons (Sh.int .u64) Sh.nil)))))) (Sh.fst (Sh.cons (Sh.int .u64) Sh.nil))) Sh.hnil)))
def F101_0 (v : (Int × Int × Int × Int) × Int × Int × Int × Int) : Option ((Int × Int × Int × Int) × Int) :=
  let x692 : Int := (IntKind.wrap .u64 (v.1.1 + v.2.1))
  let x693 : Int := (IntKind.wrap .u64 (x692 + (0 : Int)))
  (F106_0 x693).bind fun r694 =>
  let x695 : Int := (IntKind.wrap .u64 (Int.tdiv x693 (4294967296 : Int)))
  let x696 : Int := (IntKind.wrap .u64 (v.1.2.1 + v.2.2.1))
  let x697 : Int := (IntKind.wrap .u64 (x696 + x695))
  (F106_0 x697).bind fun r698 =>
  let x699 : Int := (IntKind.wrap .u64 (Int.tdiv x697 (4294967296 : Int)))
  let x700 : Int := (IntKind.wrap .u64 (v.1.2.2.1 + v.2.2.2.1))
  let x701 : Int := (IntKind.wrap .u64 (x700 + x699))
  (F106_0 x701).bind fun r702 =>
  let x703 : Int := (IntKind.wrap .u64 (Int.tdiv x701 (4294967296 : Int)))
  let x704 : Int := (IntKind.wrap .u64 (v.1.2.2.2 + v.2.2.2.2))
  let x705 : Int := (IntKind.wrap .u64 (x704 + x703))
  (F106_0 x705).bind fun r706 =>
  let x707 : Int := (IntKind.wrap .u64 (Int.tdiv x705 (4294967296 : Int)))
  some ((r694, (r698, (r702, r706))), x707)

noncomputable def k101_0 : List (Known Try.prog E) := [Known.of envOk [1] [.keep] v106_0 F106_0 w106_0 ok106_0]
noncomputable def L101_0 (n id : Nat) (st : St G) : Option ((Int × Int × Int × Int) × Int) := none
set_option maxRecDepth 100000 in
theorem e101_0 (n : Nat) (v : (Int × Int × Int × Int) × Int × Int × Int × Int) : ev Try.prog E (oracle k101_0) Try.f101.ntmps (fun x => mem x []) (L101_0 n) (finA Try.prog E Try.f101.results.toList [] w101_0.alts) 4000 [.code (Try.f101.body.getD .skip)] (argSt (v101_0.enc v)) = F101_0 v := by kernel_rfl
theorem ok101_0 : FnOk Try.prog E 101 v101_0.enc F101_0 w101_0.enc :=
  fn_known (fn := Try.f101) (c := (Try.f101.body.getD .skip)) Try.func101 (by kernel_rfl) rfl envOk (oracle_ok k101_0) mixed v101_0 F101_0 w101_0 [] [] 4000 L101_0 (by kernel_rfl)
    (fun _ h => nomatch h) (fun v _ h => ⟨0, (e101_0 _ v).trans h⟩) (fun _ => by kernel_rfl) (fun _ => by kernel_rfl) (fun _ _ => by kernel_rfl)
/- chicane/chicaneref01.Words -/
abbrev A105_0 : Type := Bool × Int × Int × Int × Int
abbrev R105_0 : Type := Int × Int × Bool
def v105_0 : Pk G (Bool × Int × Int × Int × Int) := (Pk.fst (pk (Sh.fst (Sh.cons (Sh.agg (Sh.cons Sh.bool (Sh.cons (Sh.int .u64) (Sh.cons (Sh.int .u64) (Sh.cons (Sh.int .u64) (Sh.fst (Sh.cons (Sh.int .u64) Sh.nil))))))) Sh.nil)) Sh.hnil))
def w105_0 : Wk G (Int × Int × Bool) := (Wk.one [.keep, .keep, .keep] (Pk.fst (pk (Sh.cons (Sh.int .i64) (Sh.cons (Sh.int .u64) (Sh.fst (Sh.cons Sh.bool Sh.nil)))) Sh.hnil)))
def F105_0 (v : Bool × Int × Int × Int × Int) : Option (Int × Int × Bool) :=
  let x746 : Int := (IntKind.wrap .u64 (v.2.2.2.2 * (4294967296 : Int)))
  let x747 : Int := (IntKind.wrap .u64 (x746 + v.2.2.2.1))
  let x748 : Int := (IntKind.wrap .u64 (v.2.2.1 * (4294967296 : Int)))
  let x749 : Int := (IntKind.wrap .u64 (x748 + v.2.1))
  bif (decide (x747 > (9223372036854775808 : Int))) then
    some ((0 : Int), ((0 : Int), false))
  else
    bif (x747 == (9223372036854775808 : Int)) then
      bif (x749 != (0 : Int)) then
        some ((0 : Int), ((0 : Int), false))
      else
        bif (!v.1) then
          some ((0 : Int), ((0 : Int), false))
        else
          bif v.1 then
            let x750 : Int := (Go.bits .xor .u64 (18446744073709551615) x749)
            let x751 : Int := (IntKind.wrap .u64 (x750 + (1 : Int)))
            let x752 : Int := (Go.bits .xor .u64 (18446744073709551615) x747)
            bif (x751 == (0 : Int)) then
              let x753 : Int := (IntKind.wrap .u64 (x752 + (1 : Int)))
              let x754 : Int := (IntKind.wrap .i64 x753)
              some (x754, (x751, true))
            else
              let x755 : Int := (IntKind.wrap .i64 x752)
              some (x755, (x751, true))
          else
            let x756 : Int := (IntKind.wrap .i64 x747)
            some (x756, (x749, true))
    else
      bif v.1 then
        let x757 : Int := (Go.bits .xor .u64 (18446744073709551615) x749)
        let x758 : Int := (IntKind.wrap .u64 (x757 + (1 : Int)))
        let x759 : Int := (Go.bits .xor .u64 (18446744073709551615) x747)
        bif (x758 == (0 : Int)) then
          let x760 : Int := (IntKind.wrap .u64 (x759 + (1 : Int)))
          let x761 : Int := (IntKind.wrap .i64 x760)
          some (x761, (x758, true))
        else
          let x762 : Int := (IntKind.wrap .i64 x759)
          some (x762, (x758, true))
      else
        let x763 : Int := (IntKind.wrap .i64 x747)
        some (x763, (x749, true))

noncomputable def k105_0 : List (Known Try.prog E) := []
noncomputable def L105_0 (n id : Nat) (st : St G) : Option (Int × Int × Bool) := none
set_option maxRecDepth 100000 in
theorem e105_0 (n : Nat) (v : Bool × Int × Int × Int × Int) : ev Try.prog E (oracle k105_0) Try.f105.ntmps (fun x => mem x []) (L105_0 n) (finA Try.prog E Try.f105.results.toList [] w105_0.alts) 4000 [.code (Try.f105.body.getD .skip)] (argSt (v105_0.enc v)) = F105_0 v := by kernel_rfl
theorem ok105_0 : FnOk Try.prog E 105 v105_0.enc F105_0 w105_0.enc :=
  fn_known (fn := Try.f105) (c := (Try.f105.body.getD .skip)) Try.func105 (by kernel_rfl) rfl envOk (oracle_ok k105_0) mixed v105_0 F105_0 w105_0 [] [] 4000 L105_0 (by kernel_rfl)
    (fun _ h => nomatch h) (fun v _ h => ⟨0, (e105_0 _ v).trans h⟩) (fun _ => by kernel_rfl) (fun _ => by kernel_rfl) (fun _ _ => by kernel_rfl)
/- chicane/chicaneref01.less -/
abbrev A102_0 : Type := (Int × Int × Int × Int) × Int × Int × Int × Int
abbrev R102_0 : Type := Bool
def v102_0 : Pk G ((Int × Int × Int × Int) × Int × Int × Int × Int) := (Pk.fst (pk (Sh.cons (Sh.agg (Sh.cons (Sh.int .u64) (Sh.cons (Sh.int .u64) (Sh.cons (Sh.int .u64) (Sh.fst (Sh.cons (Sh.int .u64) Sh.nil)))))) (Sh.fst (Sh.cons (Sh.agg (Sh.cons (Sh.int .u64) (Sh.cons (Sh.int .u64) (Sh.cons (Sh.int .u64) (Sh.fst (Sh.cons (Sh.int .u64) Sh.nil)))))) Sh.nil))) Sh.hnil))
def w102_0 : Wk G Bool := (Wk.one [.keep] (Pk.fst (pk (Sh.fst (Sh.cons Sh.bool Sh.nil)) Sh.hnil)))
def F102_0 (v : (Int × Int × Int × Int) × Int × Int × Int × Int) : Option Bool :=
  bif (v.1.2.2.2 != v.2.2.2.2) then
    some (decide (v.1.2.2.2 < v.2.2.2.2))
  else
    bif (v.1.2.2.1 != v.2.2.2.1) then
      some (decide (v.1.2.2.1 < v.2.2.2.1))
    else
      bif (v.1.2.1 != v.2.2.1) then
        some (decide (v.1.2.1 < v.2.2.1))
      else
        bif (v.1.1 != v.2.1) then
          some (decide (v.1.1 < v.2.1))
        else
          some (false)

noncomputable def k102_0 : List (Known Try.prog E) := []
noncomputable def L102_0 (n id : Nat) (st : St G) : Option Bool := none
set_option maxRecDepth 100000 in
theorem e102_0 (n : Nat) (v : (Int × Int × Int × Int) × Int × Int × Int × Int) : ev Try.prog E (oracle k102_0) Try.f102.ntmps (fun x => mem x []) (L102_0 n) (finA Try.prog E Try.f102.results.toList [] w102_0.alts) 4000 [.code (Try.f102.body.getD .skip)] (argSt (v102_0.enc v)) = F102_0 v := by kernel_rfl
theorem ok102_0 : FnOk Try.prog E 102 v102_0.enc F102_0 w102_0.enc :=
  fn_known (fn := Try.f102) (c := (Try.f102.body.getD .skip)) Try.func102 (by kernel_rfl) rfl envOk (oracle_ok k102_0) mixed v102_0 F102_0 w102_0 [] [] 4000 L102_0 (by kernel_rfl)
    (fun _ h => nomatch h) (fun v _ h => ⟨0, (e102_0 _ v).trans h⟩) (fun _ => by kernel_rfl) (fun _ => by kernel_rfl) (fun _ _ => by kernel_rfl)
/- chicane/chicaneref01.minus -/
abbrev A103_0 : Type := (Int × Int × Int × Int) × Int × Int × Int × Int
abbrev R103_0 : Type := Int × Int × Int × Int
def v103_0 : Pk G ((Int × Int × Int × Int) × Int × Int × Int × Int) := (Pk.fst (pk (Sh.cons (Sh.agg (Sh.cons (Sh.int .u64) (Sh.cons (Sh.int .u64) (Sh.cons (Sh.int .u64) (Sh.fst (Sh.cons (Sh.int .u64) Sh.nil)))))) (Sh.fst (Sh.cons (Sh.agg (Sh.cons (Sh.int .u64) (Sh.cons (Sh.int .u64) (Sh.cons (Sh.int .u64) (Sh.fst (Sh.cons (Sh.int .u64) Sh.nil)))))) Sh.nil))) Sh.hnil))
def w103_0 : Wk G (Int × Int × Int × Int) := (Wk.one [(.agg [.keep, .keep, .keep, .keep])] (Pk.fst (pk (Sh.fst (Sh.cons (Sh.agg (Sh.cons (Sh.int .u64) (Sh.cons (Sh.int .u64) (Sh.cons (Sh.int .u64) (Sh.fst (Sh.cons (Sh.int .u64) Sh.nil)))))) Sh.nil)) Sh.hnil)))
def F103_0 (v : (Int × Int × Int × Int) × Int × Int × Int × Int) : Option (Int × Int × Int × Int) :=
  let x815 : Int := (IntKind.wrap .u64 (v.1.1 + (4294967296 : Int)))
  let x816 : Int := (IntKind.wrap .u64 (x815 - v.2.1))
  let x817 : Int := (IntKind.wrap .u64 (x816 - (0 : Int)))
  (F106_0 x817).bind fun r818 =>
  let x819 : Int := (IntKind.wrap .u64 (Int.tdiv x817 (4294967296 : Int)))
  let x820 : Int := (IntKind.wrap .u64 ((1 : Int) - x819))
  let x821 : Int := (IntKind.wrap .u64 (v.1.2.1 + (4294967296 : Int)))
  let x822 : Int := (IntKind.wrap .u64 (x821 - v.2.2.1))
  let x823 : Int := (IntKind.wrap .u64 (x822 - x820))
  (F106_0 x823).bind fun r824 =>
  let x825 : Int := (IntKind.wrap .u64 (Int.tdiv x823 (4294967296 : Int)))
  let x826 : Int := (IntKind.wrap .u64 ((1 : Int) - x825))
  let x827 : Int := (IntKind.wrap .u64 (v.1.2.2.1 + (4294967296 : Int)))
  let x828 : Int := (IntKind.wrap .u64 (x827 - v.2.2.2.1))
  let x829 : Int := (IntKind.wrap .u64 (x828 - x826))
  (F106_0 x829).bind fun r830 =>
  let x831 : Int := (IntKind.wrap .u64 (Int.tdiv x829 (4294967296 : Int)))
  let x832 : Int := (IntKind.wrap .u64 ((1 : Int) - x831))
  let x833 : Int := (IntKind.wrap .u64 (v.1.2.2.2 + (4294967296 : Int)))
  let x834 : Int := (IntKind.wrap .u64 (x833 - v.2.2.2.2))
  let x835 : Int := (IntKind.wrap .u64 (x834 - x832))
  (F106_0 x835).bind fun r836 =>
  some (r818, (r824, (r830, r836)))

noncomputable def k103_0 : List (Known Try.prog E) := [Known.of envOk [1] [.keep] v106_0 F106_0 w106_0 ok106_0]
noncomputable def L103_0 (n id : Nat) (st : St G) : Option (Int × Int × Int × Int) := none
set_option maxRecDepth 100000 in
theorem e103_0 (n : Nat) (v : (Int × Int × Int × Int) × Int × Int × Int × Int) : ev Try.prog E (oracle k103_0) Try.f103.ntmps (fun x => mem x []) (L103_0 n) (finA Try.prog E Try.f103.results.toList [] w103_0.alts) 4000 [.code (Try.f103.body.getD .skip)] (argSt (v103_0.enc v)) = F103_0 v := by kernel_rfl
theorem ok103_0 : FnOk Try.prog E 103 v103_0.enc F103_0 w103_0.enc :=
  fn_known (fn := Try.f103) (c := (Try.f103.body.getD .skip)) Try.func103 (by kernel_rfl) rfl envOk (oracle_ok k103_0) mixed v103_0 F103_0 w103_0 [] [] 4000 L103_0 (by kernel_rfl)
    (fun _ h => nomatch h) (fun v _ h => ⟨0, (e103_0 _ v).trans h⟩) (fun _ => by kernel_rfl) (fun _ => by kernel_rfl) (fun _ _ => by kernel_rfl)
/- chicane/chicaneref01.Add -/
abbrev A81_0 : Type := (Bool × Int × Int × Int × Int) × Bool × Int × Int × Int × Int
abbrev R81_0 : Type := (Bool × Int × Int × Int × Int) × Bool
def v81_0 : Pk G ((Bool × Int × Int × Int × Int) × Bool × Int × Int × Int × Int) := (Pk.fst (pk (Sh.cons (Sh.agg (Sh.cons Sh.bool (Sh.cons (Sh.int .u64) (Sh.cons (Sh.int .u64) (Sh.cons (Sh.int .u64) (Sh.fst (Sh.cons (Sh.int .u64) Sh.nil))))))) (Sh.fst (Sh.cons (Sh.agg (Sh.cons Sh.bool (Sh.cons (Sh.int .u64) (Sh.cons (Sh.int .u64) (Sh.cons (Sh.int .u64) (Sh.fst (Sh.cons (Sh.int .u64) Sh.nil))))))) Sh.nil))) Sh.hnil))
def w81_0 : Wk G ((Bool × Int × Int × Int × Int) × Bool) := (Wk.one [(.agg [.keep, .keep, .keep, .keep, .keep]), .keep] (Pk.fst (pk (Sh.cons (Sh.agg (Sh.cons Sh.bool (Sh.cons (Sh.int .u64) (Sh.cons (Sh.int .u64) (Sh.cons (Sh.int .u64) (Sh.fst (Sh.cons (Sh.int .u64) Sh.nil))))))) (Sh.fst (Sh.cons Sh.bool Sh.nil))) Sh.hnil)))
def F81_0 (v : (Bool × Int × Int × Int × Int) × Bool × Int × Int × Int × Int) : Option ((Bool × Int × Int × Int × Int) × Bool) :=
  bif (v.1.1 == v.2.1) then
    (F101_0 (v.1.2, v.2.2)).bind fun r860 =>
    (F104_0 (v.1.1, r860.1)).bind fun r861 =>
    bif r861 then
      (F105_0 (false, r860.1)).bind fun r862 =>
      bif (!(r860.2 == (0 : Int))) then
        some ((false, ((0 : Int), ((0 : Int), ((0 : Int), (0 : Int))))), false)
      else
        bif (!r862.2.2) then
          some ((false, ((0 : Int), ((0 : Int), ((0 : Int), (0 : Int))))), false)
        else
          some ((false, r860.1), true)
    else
      (F105_0 (v.1.1, r860.1)).bind fun r863 =>
      bif (!(r860.2 == (0 : Int))) then
        some ((false, ((0 : Int), ((0 : Int), ((0 : Int), (0 : Int))))), false)
      else
        bif (!r863.2.2) then
          some ((false, ((0 : Int), ((0 : Int), ((0 : Int), (0 : Int))))), false)
        else
          some ((v.1.1, r860.1), true)
  else
    (F102_0 (v.1.2, v.2.2)).bind fun r864 =>
    bif r864 then
      (F103_0 (v.2.2, v.1.2)).bind fun r865 =>
      (F104_0 (v.2.1, r865)).bind fun r866 =>
      bif r866 then
        (F105_0 (false, r865)).bind fun r867 =>
        bif (!r867.2.2) then
          some ((false, ((0 : Int), ((0 : Int), ((0 : Int), (0 : Int))))), false)
        else
          some ((false, r865), true)
      else
        (F105_0 (v.2.1, r865)).bind fun r868 =>
        bif (!r868.2.2) then
          some ((false, ((0 : Int), ((0 : Int), ((0 : Int), (0 : Int))))), false)
        else
          some ((v.2.1, r865), true)
    else
      (F103_0 (v.1.2, v.2.2)).bind fun r869 =>
      (F104_0 (v.1.1, r869)).bind fun r870 =>
      bif r870 then
        (F105_0 (false, r869)).bind fun r871 =>
        bif (!r871.2.2) then
          some ((false, ((0 : Int), ((0 : Int), ((0 : Int), (0 : Int))))), false)
        else
          some ((false, r869), true)
      else
        (F105_0 (v.1.1, r869)).bind fun r872 =>
        bif (!r872.2.2) then
          some ((false, ((0 : Int), ((0 : Int), ((0 : Int), (0 : Int))))), false)
        else
          some ((v.1.1, r869), true)

noncomputable def k81_0 : List (Known Try.prog E) := [Known.of envOk [9, 9] [(.agg [.keep, .keep, .keep, .keep]), (.agg [.keep, .keep, .keep, .keep])] v101_0 F101_0 w101_0 ok101_0, Known.of envOk [9] [(.agg [.keep, .keep, .keep, .keep, .keep])] v104_0 F104_0 w104_0 ok104_0, Known.of envOk [9] [(.agg [.keep, .keep, .keep, .keep, .keep])] v105_0 F105_0 w105_0 ok105_0, Known.of envOk [9, 9] [(.agg [.keep, .keep, .keep, .keep]), (.agg [.keep, .keep, .keep, .keep])] v102_0 F102_0 w102_0 ok102_0, Known.of envOk [9, 9] [(.agg [.keep, .keep, .keep, .keep]), (.agg [.keep, .keep, .keep, .keep])] v103_0 F103_0 w103_0 ok103_0]
noncomputable def L81_0 (n id : Nat) (st : St G) : Option ((Bool × Int × Int × Int × Int) × Bool) := none
set_option maxRecDepth 100000 in
theorem e81_0 (n : Nat) (v : (Bool × Int × Int × Int × Int) × Bool × Int × Int × Int × Int) : ev Try.prog E (oracle k81_0) Try.f81.ntmps (fun x => mem x []) (L81_0 n) (finA Try.prog E Try.f81.results.toList [] w81_0.alts) 4000 [.code (Try.f81.body.getD .skip)] (argSt (v81_0.enc v)) = F81_0 v := by kernel_rfl
theorem ok81_0 : FnOk Try.prog E 81 v81_0.enc F81_0 w81_0.enc :=
  fn_known (fn := Try.f81) (c := (Try.f81.body.getD .skip)) Try.func81 (by kernel_rfl) rfl envOk (oracle_ok k81_0) mixed v81_0 F81_0 w81_0 [] [] 4000 L81_0 (by kernel_rfl)
    (fun _ h => nomatch h) (fun v _ h => ⟨0, (e81_0 _ v).trans h⟩) (fun _ => by kernel_rfl) (fun _ => by kernel_rfl) (fun _ _ => by kernel_rfl)
/- chicane/chicaneref01.Sign -/
abbrev A107_0 : Type := Bool × Int × Int × Int × Int
abbrev R107_0 : Type := Int
def v107_0 : Pk G (Bool × Int × Int × Int × Int) := (Pk.fst (pk (Sh.fst (Sh.cons (Sh.agg (Sh.cons Sh.bool (Sh.cons (Sh.int .u64) (Sh.cons (Sh.int .u64) (Sh.cons (Sh.int .u64) (Sh.fst (Sh.cons (Sh.int .u64) Sh.nil))))))) Sh.nil)) Sh.hnil))
def w107_0 : Wk G Int := (Wk.one [.keep] (Pk.fst (pk (Sh.fst (Sh.cons (Sh.int .i64) Sh.nil)) Sh.hnil)))
def F107_0 (v : Bool × Int × Int × Int × Int) : Option Int :=
  (F104_0 v).bind fun r880 =>
  bif r880 then
    some (0 : Int)
  else
    bif v.1 then
      some (-1 : Int)
    else
      some (1 : Int)

noncomputable def k107_0 : List (Known Try.prog E) := [Known.of envOk [9] [(.agg [.keep, .keep, .keep, .keep, .keep])] v104_0 F104_0 w104_0 ok104_0]
noncomputable def L107_0 (n id : Nat) (st : St G) : Option Int := none
set_option maxRecDepth 100000 in
theorem e107_0 (n : Nat) (v : Bool × Int × Int × Int × Int) : ev Try.prog E (oracle k107_0) Try.f107.ntmps (fun x => mem x []) (L107_0 n) (finA Try.prog E Try.f107.results.toList [] w107_0.alts) 4000 [.code (Try.f107.body.getD .skip)] (argSt (v107_0.enc v)) = F107_0 v := by kernel_rfl
theorem ok107_0 : FnOk Try.prog E 107 v107_0.enc F107_0 w107_0.enc :=
  fn_known (fn := Try.f107) (c := (Try.f107.body.getD .skip)) Try.func107 (by kernel_rfl) rfl envOk (oracle_ok k107_0) mixed v107_0 F107_0 w107_0 [] [] 4000 L107_0 (by kernel_rfl)
    (fun _ h => nomatch h) (fun v _ h => ⟨0, (e107_0 _ v).trans h⟩) (fun _ => by kernel_rfl) (fun _ => by kernel_rfl) (fun _ _ => by kernel_rfl)
/- chicane/chicaneref01.square -/
abbrev A114_0 : Type := Int
abbrev R114_0 : Type := Int × Int × Int × Int
def v114_0 : Pk G Int := (Pk.fst (pk (Sh.fst (Sh.cons (Sh.int .u64) Sh.nil)) Sh.hnil))
def w114_0 : Wk G (Int × Int × Int × Int) := (Wk.one [(.agg [.keep, .keep, .keep, .keep])] (Pk.fst (pk (Sh.fst (Sh.cons (Sh.agg (Sh.cons (Sh.int .u64) (Sh.cons (Sh.int .u64) (Sh.cons (Sh.int .u64) (Sh.fst (Sh.cons (Sh.int .u64) Sh.nil)))))) Sh.nil)) Sh.hnil)))
def c114_0_4 : Pk G (Int × (Int × Int × Int × Int) × (Int × Int) × Int × Int × Int × Int) := (pk (Sh.snd (Sh.cons (Sh.ptr 0 0) (Sh.snd (Sh.cons (Sh.ptr 1 0) (Sh.snd (Sh.cons (Sh.ptr 2 0) (Sh.fst (Sh.cons (Sh.int .i64) Sh.nil)))))))) (Sh.hfix 2 144 (Sh.cons (Sh.int .u64) (Sh.cons (Sh.int .u64) (Sh.cons (Sh.int .u64) (Sh.fst (Sh.cons (Sh.int .u64) Sh.nil))))) (Sh.hfix 1 178 (Sh.cons (Sh.int .u64) (Sh.fst (Sh.cons (Sh.int .u64) Sh.nil))) (Sh.fst (Sh.hfix 0 144 (Sh.cons (Sh.int .u64) (Sh.cons (Sh.int .u64) (Sh.cons (Sh.int .u64) (Sh.fst (Sh.cons (Sh.int .u64) Sh.nil))))) Sh.hnil)))))
def c114_0_7 : Pk G ((Int × Int) × (Int × Int × Int × Int) × (Int × Int) × Int × Int × Int × Int) := (pk (Sh.snd (Sh.cons (Sh.ptr 0 0) (Sh.snd (Sh.cons (Sh.ptr 1 0) (Sh.snd (Sh.cons (Sh.ptr 2 0) (Sh.cons (Sh.int .i64) (Sh.fst (Sh.cons (Sh.int .i64) Sh.nil))))))))) (Sh.hfix 2 144 (Sh.cons (Sh.int .u64) (Sh.cons (Sh.int .u64) (Sh.cons (Sh.int .u64) (Sh.fst (Sh.cons (Sh.int .u64) Sh.nil))))) (Sh.hfix 1 178 (Sh.cons (Sh.int .u64) (Sh.fst (Sh.cons (Sh.int .u64) Sh.nil))) (Sh.fst (Sh.hfix 0 144 (Sh.cons (Sh.int .u64) (Sh.cons (Sh.int .u64) (Sh.cons (Sh.int .u64) (Sh.fst (Sh.cons (Sh.int .u64) Sh.nil))))) Sh.hnil)))))
def c114_0_11 : Pk G ((Int × Int × Int × Int) × (Int × Int × Int × Int) × (Int × Int) × Int × Int × Int × Int) := (pk (Sh.snd (Sh.cons (Sh.ptr 0 0) (Sh.snd (Sh.cons (Sh.ptr 1 0) (Sh.snd (Sh.cons (Sh.ptr 2 0) (Sh.cons (Sh.int .i64) (Sh.cons (Sh.int .i64) (Sh.cons (Sh.int .u64) (Sh.fst (Sh.cons (Sh.int .i64) Sh.nil))))))))))) (Sh.hfix 2 144 (Sh.cons (Sh.int .u64) (Sh.cons (Sh.int .u64) (Sh.cons (Sh.int .u64) (Sh.fst (Sh.cons (Sh.int .u64) Sh.nil))))) (Sh.hfix 1 178 (Sh.cons (Sh.int .u64) (Sh.fst (Sh.cons (Sh.int .u64) Sh.nil))) (Sh.fst (Sh.hfix 0 144 (Sh.cons (Sh.int .u64) (Sh.cons (Sh.int .u64) (Sh.cons (Sh.int .u64) (Sh.fst (Sh.cons (Sh.int .u64) Sh.nil))))) Sh.hnil)))))
def B114_0_4 (K : ((Int × (Int × Int × Int × Int) × (Int × Int) × Int × Int × Int × Int) → Option (Int × Int × Int × Int)) × (((Int × Int) × (Int × Int × Int × Int) × (Int × Int) × Int × Int × Int × Int) → Option (Int × Int × Int × Int)) × (((Int × Int × Int × Int) × (Int × Int × Int × Int) × (Int × Int) × Int × Int × Int × Int) → Option (Int × Int × Int × Int))) (v : Int × (Int × Int × Int × Int) × (Int × Int) × Int × Int × Int × Int) : Option (Int × Int × Int × Int) :=
  bif (decide (v.1 < (2 : Int))) then
    K.2.1 ((v.1, (0 : Int)), v.2)
  else
    some (v.2.1)

def B114_0_7 (K : ((Int × (Int × Int × Int × Int) × (Int × Int) × Int × Int × Int × Int) → Option (Int × Int × Int × Int)) × (((Int × Int) × (Int × Int × Int × Int) × (Int × Int) × Int × Int × Int × Int) → Option (Int × Int × Int × Int)) × (((Int × Int × Int × Int) × (Int × Int × Int × Int) × (Int × Int) × Int × Int × Int × Int) → Option (Int × Int × Int × Int))) (v : (Int × Int) × (Int × Int × Int × Int) × (Int × Int) × Int × Int × Int × Int) : Option (Int × Int × Int × Int) :=
  bif (decide (v.1.2 < (2 : Int))) then
    (idx v.1.1 2).bind fun (x956 : Nat) =>
    (idx v.1.2 2).bind fun (x957 : Nat) =>
    let x958 : Int := (IntKind.wrap .u64 ((List.getD [v.2.2.1.1, v.2.2.1.2] x956 0) * (List.getD [v.2.2.1.1, v.2.2.1.2] x957 0)))
    let x959 : Int := (IntKind.wrap .i64 (v.1.1 + v.1.2))
    K.2.2 ((v.1.1, (v.1.2, (x958, x959))), v.2)
  else
    let x960 : Int := (IntKind.wrap .i64 (v.1.1 + (1 : Int)))
    K.1 (x960, v.2)

def B114_0_11 (K : ((Int × (Int × Int × Int × Int) × (Int × Int) × Int × Int × Int × Int) → Option (Int × Int × Int × Int)) × (((Int × Int) × (Int × Int × Int × Int) × (Int × Int) × Int × Int × Int × Int) → Option (Int × Int × Int × Int)) × (((Int × Int × Int × Int) × (Int × Int × Int × Int) × (Int × Int) × Int × Int × Int × Int) → Option (Int × Int × Int × Int))) (v : (Int × Int × Int × Int) × (Int × Int × Int × Int) × (Int × Int) × Int × Int × Int × Int) : Option (Int × Int × Int × Int) :=
  bif (decide (v.1.2.2.2 < (4 : Int))) then
    bif (decide (v.1.2.2.1 > (0 : Int))) then
      (idx v.1.2.2.2 4).bind fun (x961 : Nat) =>
      (F106_0 v.1.2.2.1).bind fun r962 =>
      let x963 : Int := (IntKind.wrap .u64 ((List.getD [v.2.1.1, v.2.1.2.1, v.2.1.2.2.1, v.2.1.2.2.2] x961 0) + r962))
      (F106_0 x963).bind fun r964 =>
      (idx v.1.2.2.2 4).bind fun (x965 : Nat) =>
      let x966 : Int := (IntKind.wrap .u64 (Int.tdiv v.1.2.2.1 (4294967296 : Int)))
      let x967 : Int := (IntKind.wrap .u64 (Int.tdiv x963 (4294967296 : Int)))
      let x968 : Int := (IntKind.wrap .u64 (x966 + x967))
      let x969 : Int := (IntKind.wrap .i64 (v.1.2.2.2 + (1 : Int)))
      K.2.2 ((v.1.1, (v.1.2.1, (x968, x969))), (((if x965 = 0 then r964 else v.2.1.1), ((if x965 = 1 then r964 else v.2.1.2.1), ((if x965 = 2 then r964 else v.2.1.2.2.1), (if x965 = 3 then r964 else v.2.1.2.2.2)))), v.2.2))
    else
      let x970 : Int := (IntKind.wrap .i64 (v.1.2.1 + (1 : Int)))
      K.2.1 ((v.1.1, x970), v.2)
  else
    let x971 : Int := (IntKind.wrap .i64 (v.1.2.1 + (1 : Int)))
    K.2.1 ((v.1.1, x971), v.2)

def E114_0 (K : ((Int × (Int × Int × Int × Int) × (Int × Int) × Int × Int × Int × Int) → Option (Int × Int × Int × Int)) × (((Int × Int) × (Int × Int × Int × Int) × (Int × Int) × Int × Int × Int × Int) → Option (Int × Int × Int × Int)) × (((Int × Int × Int × Int) × (Int × Int × Int × Int) × (Int × Int) × Int × Int × Int × Int) → Option (Int × Int × Int × Int))) (v : Int) : Option (Int × Int × Int × Int) :=
  (F106_0 v).bind fun r954 =>
  let x955 : Int := (IntKind.wrap .u64 (Int.tdiv v (4294967296 : Int)))
  K.1 ((0 : Int), (((0 : Int), ((0 : Int), ((0 : Int), (0 : Int)))), ((r954, x955), ((0 : Int), ((0 : Int), ((0 : Int), (0 : Int)))))))

def K114_0 : Nat → ((Int × (Int × Int × Int × Int) × (Int × Int) × Int × Int × Int × Int) → Option (Int × Int × Int × Int)) × (((Int × Int) × (Int × Int × Int × Int) × (Int × Int) × Int × Int × Int × Int) → Option (Int × Int × Int × Int)) × (((Int × Int × Int × Int) × (Int × Int × Int × Int) × (Int × Int) × Int × Int × Int × Int) → Option (Int × Int × Int × Int))
  | 0 => (fun _ => none, fun _ => none, fun _ => none)
  | n + 1 => (B114_0_4 (K114_0 n), B114_0_7 (K114_0 n), B114_0_11 (K114_0 n))
def fuel114_0 (v : Int) : Nat := 1000
def F114_0 (v : Int) : Option (Int × Int × Int × Int) := E114_0 (K114_0 (fuel114_0 v)) v
noncomputable def k114_0 : List (Known Try.prog E) := [Known.of envOk [1] [.keep] v106_0 F106_0 w106_0 ok106_0]
def s114_0_11 : List (Nat × Pat) := [(2, (.ptr 0 0 144 [.keep, .keep, .keep, .keep])), (3, (.ptr 1 0 178 [.keep, .keep])), (4, (.ptr 2 0 144 [.keep, .keep, .keep, .keep])), (5, .keep), (6, .keep), (7, .keep), (8, .keep)]
def s114_0_7 : List (Nat × Pat) := [(2, (.ptr 0 0 144 [.keep, .keep, .keep, .keep])), (3, (.ptr 1 0 178 [.keep, .keep])), (4, (.ptr 2 0 144 [.keep, .keep, .keep, .keep])), (5, .keep), (6, .keep)]
def s114_0_4 : List (Nat × Pat) := [(2, (.ptr 0 0 144 [.keep, .keep, .keep, .keep])), (3, (.ptr 1 0 178 [.keep, .keep])), (4, (.ptr 2 0 144 [.keep, .keep, .keep, .keep])), (5, .keep)]
noncomputable def L114_0 (n id : Nat) (st : St G) : Option (Int × Int × Int × Int) := match Nat.beq id 4 with | true => cutK Try.prog s114_0_4 [] c114_0_4.dec (K114_0 n).1 st | false => match Nat.beq id 7 with | true => cutK Try.prog s114_0_7 [] c114_0_7.dec (K114_0 n).2.1 st | false => match Nat.beq id 11 with | true => cutK Try.prog s114_0_11 [] c114_0_11.dec (K114_0 n).2.2 st | false => none
set_option maxRecDepth 100000 in
theorem e114_0 (n : Nat) (v : Int) : ev Try.prog E (oracle k114_0) Try.f114.ntmps (fun x => mem x [4, 7, 11]) (L114_0 n) (finA Try.prog E Try.f114.results.toList [] w114_0.alts) 4000 [.code (Try.f114.body.getD .skip)] (argSt (v114_0.enc v)) = E114_0 (K114_0 n) v := by kernel_rfl
set_option maxRecDepth 100000 in
theorem b114_0_4 (n : Nat) (v : Int × (Int × Int × Int × Int) × (Int × Int) × Int × Int × Int × Int) : evCut Try.prog E (oracle k114_0) Try.f114.ntmps (fun x => mem x [4, 7, 11]) (L114_0 n) (finA Try.prog E Try.f114.results.toList [] w114_0.alts) 4000 (todoAt (Try.f114.body.getD .skip) 4) (cutSt s114_0_4 (c114_0_4.enc v)) = B114_0_4 (K114_0 n) v := by kernel_rfl
set_option maxRecDepth 100000 in
theorem b114_0_7 (n : Nat) (v : (Int × Int) × (Int × Int × Int × Int) × (Int × Int) × Int × Int × Int × Int) : evCut Try.prog E (oracle k114_0) Try.f114.ntmps (fun x => mem x [4, 7, 11]) (L114_0 n) (finA Try.prog E Try.f114.results.toList [] w114_0.alts) 4000 (todoAt (Try.f114.body.getD .skip) 7) (cutSt s114_0_7 (c114_0_7.enc v)) = B114_0_7 (K114_0 n) v := by kernel_rfl
set_option maxRecDepth 100000 in
theorem b114_0_11 (n : Nat) (v : (Int × Int × Int × Int) × (Int × Int × Int × Int) × (Int × Int) × Int × Int × Int × Int) : evCut Try.prog E (oracle k114_0) Try.f114.ntmps (fun x => mem x [4, 7, 11]) (L114_0 n) (finA Try.prog E Try.f114.results.toList [] w114_0.alts) 4000 (todoAt (Try.f114.body.getD .skip) 11) (cutSt s114_0_11 (c114_0_11.enc v)) = B114_0_11 (K114_0 n) v := by kernel_rfl
theorem ok114_0 : FnOk Try.prog E 114 v114_0.enc F114_0 w114_0.enc :=
  fn_known (fn := Try.f114) (c := (Try.f114.body.getD .skip)) Try.func114 (by kernel_rfl) rfl envOk (oracle_ok k114_0) mixed v114_0 F114_0 w114_0 [] [4, 7, 11] 4000 L114_0 (by kernel_rfl)
    (List.forall_mem_cons.2 ⟨⟨_, s114_0_4, c114_0_4.dec, c114_0_4.enc, fun n => (K114_0 n).1, c114_0_4.ok, fun _ _ => rfl, fun _ => rfl, fun n v _ h => (b114_0_4 n v).trans h⟩, List.forall_mem_cons.2 ⟨⟨_, s114_0_7, c114_0_7.dec, c114_0_7.enc, fun n => (K114_0 n).2.1, c114_0_7.ok, fun _ _ => rfl, fun _ => rfl, fun n v _ h => (b114_0_7 n v).trans h⟩, List.forall_mem_cons.2 ⟨⟨_, s114_0_11, c114_0_11.dec, c114_0_11.enc, fun n => (K114_0 n).2.2, c114_0_11.ok, fun _ _ => rfl, fun _ => rfl, fun n v _ h => (b114_0_11 n v).trans h⟩, fun _ h => (nomatch h)⟩⟩⟩) (fun v _ h => ⟨fuel114_0 v, (e114_0 _ v).trans h⟩) (fun _ => by kernel_rfl) (fun _ => by kernel_rfl) (fun _ _ => by kernel_rfl)
/- chicane/chicaneref01.Root -/
abbrev A99_0 : Type := Bool × Int × Int × Int × Int
abbrev R99_0 : Type := Int
def v99_0 : Pk G (Bool × Int × Int × Int × Int) := (Pk.fst (pk (Sh.fst (Sh.cons (Sh.agg (Sh.cons Sh.bool (Sh.cons (Sh.int .u64) (Sh.cons (Sh.int .u64) (Sh.cons (Sh.int .u64) (Sh.fst (Sh.cons (Sh.int .u64) Sh.nil))))))) Sh.nil)) Sh.hnil))
def w99_0 : Wk G Int := (Wk.one [.keep] (Pk.fst (pk (Sh.fst (Sh.cons (Sh.int .u64) Sh.nil)) Sh.hnil)))
def c99_0_5 : Pk G ((Int × Int) × Bool × Int × Int × Int × Int) := (pk (Sh.snd (Sh.cons (Sh.ptr 0 0) (Sh.cons (Sh.int .u64) (Sh.fst (Sh.cons (Sh.int .i64) Sh.nil))))) (Sh.fst (Sh.hfix 0 146 (Sh.cons Sh.bool (Sh.cons (Sh.int .u64) (Sh.cons (Sh.int .u64) (Sh.cons (Sh.int .u64) (Sh.fst (Sh.cons (Sh.int .u64) Sh.nil)))))) Sh.hnil)))
def B99_0_5 (K : (((Int × Int) × Bool × Int × Int × Int × Int) → Option Int)) (v : (Int × Int) × Bool × Int × Int × Int × Int) : Option Int :=
  bif (decide (v.1.2 ≥ (0 : Int))) then
    let x986 : Int := (IntKind.wrap .u64 v.1.2)
    (chk (decide (0 ≤ x986))).bind fun _ =>
    let x987 : Int := (IntKind.wrap .u64 ((1 : Int) * 2 ^ min (x986).toNat 64))
    let x988 : Int := (IntKind.wrap .u64 (v.1.1 + x987))
    (F114_0 x988).bind fun r989 =>
    (F102_0 (v.2.2, r989)).bind fun r990 =>
    bif (!r990) then
      let x991 : Int := (IntKind.wrap .i64 (v.1.2 - (1 : Int)))
      K ((x988, x991), v.2)
    else
      let x992 : Int := (IntKind.wrap .i64 (v.1.2 - (1 : Int)))
      K ((v.1.1, x992), v.2)
  else
    some (v.1.1)

def E99_0 (K : (((Int × Int) × Bool × Int × Int × Int × Int) → Option Int)) (v : Bool × Int × Int × Int × Int) : Option Int :=
  (F107_0 v).bind fun r985 =>
  bif (decide (r985 ≤ (0 : Int))) then
    some (0 : Int)
  else
    K (((0 : Int), (63 : Int)), v)

def K99_0 : Nat → (((Int × Int) × Bool × Int × Int × Int × Int) → Option Int)
  | 0 => (fun _ => none)
  | n + 1 => (B99_0_5 (K99_0 n))
def fuel99_0 (v : Bool × Int × Int × Int × Int) : Nat := 1000
def F99_0 (v : Bool × Int × Int × Int × Int) : Option Int := E99_0 (K99_0 (fuel99_0 v)) v
noncomputable def k99_0 : List (Known Try.prog E) := [Known.of envOk [9] [(.agg [.keep, .keep, .keep, .keep, .keep])] v107_0 F107_0 w107_0 ok107_0, Known.of envOk [1] [.keep] v114_0 F114_0 w114_0 ok114_0, Known.of envOk [9, 9] [(.agg [.keep, .keep, .keep, .keep]), (.agg [.keep, .keep, .keep, .keep])] v102_0 F102_0 w102_0 ok102_0]
def s99_0_5 : List (Nat × Pat) := [(1, (.ptr 0 0 146 [.keep, .keep, .keep, .keep, .keep])), (3, .keep), (4, .keep)]
noncomputable def L99_0 (n id : Nat) (st : St G) : Option Int := match Nat.beq id 5 with | true => cutK Try.prog s99_0_5 [] c99_0_5.dec (K99_0 n) st | false => none
set_option maxRecDepth 100000 in
theorem e99_0 (n : Nat) (v : Bool × Int × Int × Int × Int) : ev Try.prog E (oracle k99_0) Try.f99.ntmps (fun x => mem x [5]) (L99_0 n) (finA Try.prog E Try.f99.results.toList [] w99_0.alts) 4000 [.code (Try.f99.body.getD .skip)] (argSt (v99_0.enc v)) = E99_0 (K99_0 n) v := by kernel_rfl
set_option maxRecDepth 100000 in
theorem b99_0_5 (n : Nat) (v : (Int × Int) × Bool × Int × Int × Int × Int) : evCut Try.prog E (oracle k99_0) Try.f99.ntmps (fun x => mem x [5]) (L99_0 n) (finA Try.prog E Try.f99.results.toList [] w99_0.alts) 4000 (todoAt (Try.f99.body.getD .skip) 5) (cutSt s99_0_5 (c99_0_5.enc v)) = B99_0_5 (K99_0 n) v := by kernel_rfl
theorem ok99_0 : FnOk Try.prog E 99 v99_0.enc F99_0 w99_0.enc :=
  fn_known (fn := Try.f99) (c := (Try.f99.body.getD .skip)) Try.func99 (by kernel_rfl) rfl envOk (oracle_ok k99_0) mixed v99_0 F99_0 w99_0 [] [5] 4000 L99_0 (by kernel_rfl)
    (List.forall_mem_cons.2 ⟨⟨_, s99_0_5, c99_0_5.dec, c99_0_5.enc, fun n => (K99_0 n), c99_0_5.ok, fun _ _ => rfl, fun _ => rfl, fun n v _ h => (b99_0_5 n v).trans h⟩, fun _ h => (nomatch h)⟩) (fun v _ h => ⟨fuel99_0 v, (e99_0 _ v).trans h⟩) (fun _ => by kernel_rfl) (fun _ => by kernel_rfl) (fun _ _ => by kernel_rfl)
/- chicane/chicaneref03.Len4 -/
abbrev A73_0 : Type := (Int × Int × Int × Int) × Bool
abbrev R73_0 : Type := Int × Bool
def v73_0 : Pk G ((Int × Int × Int × Int) × Bool) := (pk (Sh.snd (Sh.cons (Sh.ptr 0 0) (Sh.cons (Sh.int .i64) (Sh.cons (Sh.int .i64) (Sh.cons (Sh.int .i64) (Sh.fst (Sh.cons (Sh.int .i64) Sh.nil))))))) (Sh.fst (Sh.hfix 0 54 (Sh.fst (Sh.cons Sh.bool Sh.nil)) Sh.hnil)))
def w73_0 : Wk G (Int × Bool) := (Wk.one [.keep] (pk (Sh.fst (Sh.cons (Sh.int .i64) Sh.nil)) (Sh.fst (Sh.hfix 0 54 (Sh.fst (Sh.cons Sh.bool Sh.nil)) Sh.hnil))))
def F73_0 (v : (Int × Int × Int × Int) × Bool) : Option (Int × Bool) :=
  (F82_0 (v.1.1, v.1.1)).bind fun r1020 =>
  (F82_0 (v.1.2.1, v.1.2.1)).bind fun r1021 =>
  (F81_0 (r1020, r1021)).bind fun r1022 =>
  bif r1022.2 then
    (F82_0 (v.1.2.2.1, v.1.2.2.1)).bind fun r1023 =>
    (F81_0 (r1022.1, r1023)).bind fun r1024 =>
    bif r1024.2 then
      (F82_0 (v.1.2.2.2, v.1.2.2.2)).bind fun r1025 =>
      (F81_0 (r1024.1, r1025)).bind fun r1026 =>
      bif r1026.2 then
        (F99_0 r1026.1).bind fun r1027 =>
        bif (!r1026.2) then
          some ((9223372036854775807 : Int), true)
        else
          bif (decide (r1027 > (9223372036854775807 : Int))) then
            some ((9223372036854775807 : Int), true)
          else
            let x1028 : Int := (IntKind.wrap .i64 r1027)
            some (x1028, v.2)
      else
        bif (!r1026.2) then
          some ((9223372036854775807 : Int), true)
        else
          some ((0 : Int), v.2)
    else
      bif r1024.2 then
        (F99_0 r1024.1).bind fun r1029 =>
        bif (!r1024.2) then
          some ((9223372036854775807 : Int), true)
        else
          bif (decide (r1029 > (9223372036854775807 : Int))) then
            some ((9223372036854775807 : Int), true)
          else
            let x1030 : Int := (IntKind.wrap .i64 r1029)
            some (x1030, v.2)
      else
        bif (!r1024.2) then
          some ((9223372036854775807 : Int), true)
        else
          some ((0 : Int), v.2)
  else
    bif r1022.2 then
      (F82_0 (v.1.2.2.2, v.1.2.2.2)).bind fun r1031 =>
      (F81_0 (r1022.1, r1031)).bind fun r1032 =>
      bif r1032.2 then
        (F99_0 r1032.1).bind fun r1033 =>
        bif (!r1032.2) then
          some ((9223372036854775807 : Int), true)
        else
          bif (decide (r1033 > (9223372036854775807 : Int))) then
            some ((9223372036854775807 : Int), true)
          else
            let x1034 : Int := (IntKind.wrap .i64 r1033)
            some (x1034, v.2)
      else
        bif (!r1032.2) then
          some ((9223372036854775807 : Int), true)
        else
          some ((0 : Int), v.2)
    else
      bif r1022.2 then
        (F99_0 r1022.1).bind fun r1035 =>
        bif (!r1022.2) then
          some ((9223372036854775807 : Int), true)
        else
          bif (decide (r1035 > (9223372036854775807 : Int))) then
            some ((9223372036854775807 : Int), true)
          else
            let x1036 : Int := (IntKind.wrap .i64 r1035)
            some (x1036, v.2)
      else
        bif (!r1022.2) then
          some ((9223372036854775807 : Int), true)
        else
          some ((0 : Int), v.2)

noncomputable def k73_0 : List (Known Try.prog E) := [Known.of envOk [1, 1] [.keep, .keep] v82_0 F82_0 w82_0 ok82_0, Known.of envOk [9, 9] [(.agg [.keep, .keep, .keep, .keep, .keep]), (.agg [.keep, .keep, .keep, .keep, .keep])] v81_0 F81_0 w81_0 ok81_0, Known.of envOk [9] [(.agg [.keep, .keep, .keep, .keep, .keep])] v99_0 F99_0 w99_0 ok99_0]
noncomputable def L73_0 (n id : Nat) (st : St G) : Option (Int × Bool) := none
set_option maxRecDepth 100000 in
theorem e73_0 (n : Nat) (v : (Int × Int × Int × Int) × Bool) : ev Try.prog E (oracle k73_0) Try.f73.ntmps (fun x => mem x []) (L73_0 n) (finA Try.prog E Try.f73.results.toList [(.ptr 0 0 54 [.keep])] w73_0.alts) 4000 [.code (Try.f73.body.getD .skip)] (argSt (v73_0.enc v)) = F73_0 v := by kernel_rfl
theorem ok73_0 : FnOk Try.prog E 73 v73_0.enc F73_0 w73_0.enc :=
  fn_known (fn := Try.f73) (c := (Try.f73.body.getD .skip)) Try.func73 (by kernel_rfl) rfl envOk (oracle_ok k73_0) mixed v73_0 F73_0 w73_0 [(.ptr 0 0 54 [.keep])] [] 4000 L73_0 (by kernel_rfl)
    (fun _ h => nomatch h) (fun v _ h => ⟨0, (e73_0 _ v).trans h⟩) (fun _ => by kernel_rfl) (fun _ => by kernel_rfl) (fun _ _ => by kernel_rfl)
/- chicane/chicaneref03.Len3 -/
abbrev A33_0 : Type := (Int × Int × Int) × Bool
abbrev R33_0 : Type := Int × Bool
def v33_0 : Pk G ((Int × Int × Int) × Bool) := (pk (Sh.snd (Sh.cons (Sh.ptr 0 0) (Sh.cons (Sh.int .i64) (Sh.cons (Sh.int .i64) (Sh.fst (Sh.cons (Sh.int .i64) Sh.nil)))))) (Sh.fst (Sh.hfix 0 54 (Sh.fst (Sh.cons Sh.bool Sh.nil)) Sh.hnil)))
def w33_0 : Wk G (Int × Bool) := (Wk.one [.keep] (pk (Sh.fst (Sh.cons (Sh.int .i64) Sh.nil)) (Sh.fst (Sh.hfix 0 54 (Sh.fst (Sh.cons Sh.bool Sh.nil)) Sh.hnil))))
def F33_0 (v : (Int × Int × Int) × Bool) : Option (Int × Bool) :=
  (F73_0 (((0 : Int), v.1), v.2)).bind fun r1039 =>
  some (r1039)

noncomputable def k33_0 : List (Known Try.prog E) := [Known.of envOk [5, 1, 1, 1, 1] [(.ptr 0 0 54 [.keep]), .keep, .keep, .keep, .keep] v73_0 F73_0 w73_0 ok73_0]
noncomputable def L33_0 (n id : Nat) (st : St G) : Option (Int × Bool) := none
set_option maxRecDepth 100000 in
theorem e33_0 (n : Nat) (v : (Int × Int × Int) × Bool) : ev Try.prog E (oracle k33_0) Try.f33.ntmps (fun x => mem x []) (L33_0 n) (finA Try.prog E Try.f33.results.toList [(.ptr 0 0 54 [.keep])] w33_0.alts) 4000 [.code (Try.f33.body.getD .skip)] (argSt (v33_0.enc v)) = F33_0 v := by kernel_rfl
theorem ok33_0 : FnOk Try.prog E 33 v33_0.enc F33_0 w33_0.enc :=
  fn_known (fn := Try.f33) (c := (Try.f33.body.getD .skip)) Try.func33 (by kernel_rfl) rfl envOk (oracle_ok k33_0) mixed v33_0 F33_0 w33_0 [(.ptr 0 0 54 [.keep])] [] 4000 L33_0 (by kernel_rfl)
    (fun _ h => nomatch h) (fun v _ h => ⟨0, (e33_0 _ v).trans h⟩) (fun _ => by kernel_rfl) (fun _ => by kernel_rfl) (fun _ _ => by kernel_rfl)
/- (*chicane/chicaneref02.M).bound -/
abbrev A74_0 : Type := Bool × Bool
abbrev R74_0 : Type := Int × Bool
def v74_0 : Pk G (Bool × Bool) := (pk (Sh.snd (Sh.cons (Sh.ptr 0 0) (Sh.fst (Sh.cons Sh.bool Sh.nil)))) (Sh.fst (Sh.hfix 0 54 (Sh.fst (Sh.cons Sh.bool Sh.nil)) Sh.hnil)))
def w74_0 : Wk G (Int × Bool) := (Wk.one [.keep] (pk (Sh.fst (Sh.cons (Sh.int .i64) Sh.nil)) (Sh.fst (Sh.hfix 0 54 (Sh.fst (Sh.cons Sh.bool Sh.nil)) Sh.hnil))))
def F74_0 (v : Bool × Bool) : Option (Int × Bool) :=
  bif v.1 then
    some ((-9223372036854775808 : Int), true)
  else
    some ((9223372036854775807 : Int), true)

noncomputable def k74_0 : List (Known Try.prog E) := []
noncomputable def L74_0 (n id : Nat) (st : St G) : Option (Int × Bool) := none
set_option maxRecDepth 100000 in
theorem e74_0 (n : Nat) (v : Bool × Bool) : ev Try.prog E (oracle k74_0) Try.f74.ntmps (fun x => mem x []) (L74_0 n) (finA Try.prog E Try.f74.results.toList [(.ptr 0 0 54 [.keep])] w74_0.alts) 4000 [.code (Try.f74.body.getD .skip)] (argSt (v74_0.enc v)) = F74_0 v := by kernel_rfl
theorem ok74_0 : FnOk Try.prog E 74 v74_0.enc F74_0 w74_0.enc :=
  fn_known (fn := Try.f74) (c := (Try.f74.body.getD .skip)) Try.func74 (by kernel_rfl) rfl envOk (oracle_ok k74_0) mixed v74_0 F74_0 w74_0 [(.ptr 0 0 54 [.keep])] [] 4000 L74_0 (by kernel_rfl)
    (fun _ h => nomatch h) (fun v _ h => ⟨0, (e74_0 _ v).trans h⟩) (fun _ => by kernel_rfl) (fun _ => by kernel_rfl) (fun _ _ => by kernel_rfl)
/- (*chicane/chicaneref02.M).Of -/
abbrev A34_0 : Type := Int × Bool
abbrev R34_0 : Type := Int × Bool
def v34_0 : Pk G (Int × Bool) := (pk (Sh.snd (Sh.cons (Sh.ptr 0 0) (Sh.fst (Sh.cons (Sh.int .i64) Sh.nil)))) (Sh.fst (Sh.hfix 0 54 (Sh.fst (Sh.cons Sh.bool Sh.nil)) Sh.hnil)))
def w34_0 : Wk G (Int × Bool) := (Wk.one [.keep] (pk (Sh.fst (Sh.cons (Sh.int .i64) Sh.nil)) (Sh.fst (Sh.hfix 0 54 (Sh.fst (Sh.cons Sh.bool Sh.nil)) Sh.hnil))))
def F34_0 (v : Int × Bool) : Option (Int × Bool) :=
  bif (decide (v.1 > (2147483647 : Int))) then
    (F74_0 (false, v.2)).bind fun r1047 =>
    some (r1047)
  else
    bif (decide (v.1 < (-2147483648 : Int))) then
      (F74_0 (true, v.2)).bind fun r1048 =>
      some (r1048)
    else
      let x1049 : Int := (IntKind.wrap .i64 (v.1 * (4294967296 : Int)))
      some (x1049, v.2)

noncomputable def k34_0 : List (Known Try.prog E) := [Known.of envOk [5, 2] [(.ptr 0 0 54 [.keep]), .keep] v74_0 F74_0 w74_0 ok74_0]
noncomputable def L34_0 (n id : Nat) (st : St G) : Option (Int × Bool) := none
set_option maxRecDepth 100000 in
theorem e34_0 (n : Nat) (v : Int × Bool) : ev Try.prog E (oracle k34_0) Try.f34.ntmps (fun x => mem x []) (L34_0 n) (finA Try.prog E Try.f34.results.toList [(.ptr 0 0 54 [.keep])] w34_0.alts) 4000 [.code (Try.f34.body.getD .skip)] (argSt (v34_0.enc v)) = F34_0 v := by kernel_rfl
theorem ok34_0 : FnOk Try.prog E 34 v34_0.enc F34_0 w34_0.enc :=
  fn_known (fn := Try.f34) (c := (Try.f34.body.getD .skip)) Try.func34 (by kernel_rfl) rfl envOk (oracle_ok k34_0) mixed v34_0 F34_0 w34_0 [(.ptr 0 0 54 [.keep])] [] 4000 L34_0 (by kernel_rfl)
    (fun _ h => nomatch h) (fun v _ h => ⟨0, (e34_0 _ v).trans h⟩) (fun _ => by kernel_rfl) (fun _ => by kernel_rfl) (fun _ _ => by kernel_rfl)
/- chicane/chicaneref20.Signed -/
abbrev A35_0 : Type := Int
abbrev R35_0 : Type := Int
def v35_0 : Pk G Int := (Pk.fst (pk (Sh.fst (Sh.cons (Sh.int .u32) Sh.nil)) Sh.hnil))
def w35_0 : Wk G Int := (Wk.one [.keep] (Pk.fst (pk (Sh.fst (Sh.cons (Sh.int .i64) Sh.nil)) Sh.hnil)))
def F35_0 (v : Int) : Option Int :=
  let x1055 : Int := (IntKind.wrap .i64 v)
  bif (decide (x1055 ≥ (2147483648 : Int))) then
    let x1056 : Int := (IntKind.wrap .i64 (x1055 - (4294967296 : Int)))
    some (x1056)
  else
    some (x1055)

noncomputable def k35_0 : List (Known Try.prog E) := []
noncomputable def L35_0 (n id : Nat) (st : St G) : Option Int := none
set_option maxRecDepth 100000 in
theorem e35_0 (n : Nat) (v : Int) : ev Try.prog E (oracle k35_0) Try.f35.ntmps (fun x => mem x []) (L35_0 n) (finA Try.prog E Try.f35.results.toList [] w35_0.alts) 4000 [.code (Try.f35.body.getD .skip)] (argSt (v35_0.enc v)) = F35_0 v := by kernel_rfl
theorem ok35_0 : FnOk Try.prog E 35 v35_0.enc F35_0 w35_0.enc :=
  fn_known (fn := Try.f35) (c := (Try.f35.body.getD .skip)) Try.func35 (by kernel_rfl) rfl envOk (oracle_ok k35_0) mixed v35_0 F35_0 w35_0 [] [] 4000 L35_0 (by kernel_rfl)
    (fun _ h => nomatch h) (fun v _ h => ⟨0, (e35_0 _ v).trans h⟩) (fun _ => by kernel_rfl) (fun _ => by kernel_rfl) (fun _ _ => by kernel_rfl)
/- chicane/chicaneref41.Of -/
abbrev A16_0 : Type := (Int × Int × Int × Int × Int × Int × Int × Int × Int × Int × Int × Int × Int × Int × Int × Bool × Int × Int × Bool × Int × Int × Bool × Int × Int × Bool × Int × Bool × Int × Int × Int × Int × Int × Bool × Bool × Int × Int × Int × Int × Int × Bool × Bool) × Bool
abbrev R16_0 : Type := (Int × Int × Int × Int × Int × Int × Int × Int) × Bool
def v16_0 : Pk G ((Int × Int × Int × Int × Int × Int × Int × Int × Int × Int × Int × Int × Int × Int × Int × Bool × Int × Int × Bool × Int × Int × Bool × Int × Int × Bool × Int × Bool × Int × Int × Int × Int × Int × Bool × Bool × Int × Int × Int × Int × Int × Bool × Bool) × Bool) := (pk (Sh.snd (Sh.cons (Sh.ptr 0 0) (Sh.fst (Sh.cons (Sh.agg (Sh.cons (Sh.int .i64) (Sh.cons (Sh.int .i64) (Sh.cons (Sh.int .i64) (Sh.cons (Sh.int .i64) (Sh.cons (Sh.int .i64) (Sh.cons (Sh.int .i64) (Sh.cons (Sh.int .i64) (Sh.cons (Sh.int .i64) (Sh.cons (Sh.int .i64) (Sh.cons (Sh.int .i64) (Sh.cons (Sh.int .i64) (Sh.cons (Sh.int .i64) (Sh.cons (Sh.int .i64) (Sh.cons (Sh.int .i64) (Sh.cons (Sh.int .i64) (Sh.cons Sh.bool (Sh.cons (Sh.int .i64) (Sh.cons (Sh.int .i64) (Sh.cons Sh.bool (Sh.cons (Sh.int .i64) (Sh.cons (Sh.int .i64) (Sh.cons Sh.bool (Sh.cons (Sh.int .i64) (Sh.cons (Sh.int .i64) (Sh.cons Sh.bool (Sh.cons (Sh.int .i64) (Sh.cons Sh.bool (Sh.cons (Sh.int .i64) (Sh.cons (Sh.int .i64) (Sh.cons (Sh.int .u32) (Sh.cons (Sh.int .i64) (Sh.cons (Sh.int .i64) (Sh.cons Sh.bool (Sh.cons Sh.bool (Sh.cons (Sh.int .i64) (Sh.cons (Sh.int .i64) (Sh.cons (Sh.int .i64) (Sh.cons (Sh.int .i64) (Sh.cons (Sh.int .i64) (Sh.cons Sh.bool (Sh.fst (Sh.cons Sh.bool Sh.nil))))))))))))))))))))))))))))))))))))))))))) Sh.nil)))) (Sh.fst (Sh.hfix 0 54 (Sh.fst (Sh.cons Sh.bool Sh.nil)) Sh.hnil)))
def w16_0 : Wk G ((Int × Int × Int × Int × Int × Int × Int × Int) × Bool) := (Wk.one [(.agg [.keep, .keep, .keep, .keep, .keep, .keep, .keep, .keep])] (pk (Sh.fst (Sh.cons (Sh.agg (Sh.cons (Sh.int .i64) (Sh.cons (Sh.int .i64) (Sh.cons (Sh.int .i64) (Sh.cons (Sh.int .i64) (Sh.cons (Sh.int .i64) (Sh.cons (Sh.int .i64) (Sh.cons (Sh.int .i64) (Sh.fst (Sh.cons (Sh.int .i64) Sh.nil)))))))))) Sh.nil)) (Sh.fst (Sh.hfix 0 54 (Sh.fst (Sh.cons Sh.bool Sh.nil)) Sh.hnil))))
def F16_0 (v : (Int × Int × Int × Int × Int × Int × Int × Int × Int × Int × Int × Int × Int × Int × Int × Bool × Int × Int × Bool × Int × Int × Bool × Int × Int × Bool × Int × Bool × Int × Int × Int × Int × Int × Bool × Bool × Int × Int × Int × Int × Int × Bool × Bool) × Bool) : Option ((Int × Int × Int × Int × Int × Int × Int × Int) × Bool) :=
  let x1241 : Int := (if v.1.2.2.2.2.2.2.2.2.2.2.2.2.2.2.1 > v.1.2.2.2.2.2.2.2.2.2.2.2.2.2.2.1 then v.1.2.2.2.2.2.2.2.2.2.2.2.2.2.2.1 else v.1.2.2.2.2.2.2.2.2.2.2.2.2.2.2.1)
  bif v.1.2.2.2.2.2.2.2.2.2.2.2.2.2.2.2.1 then
    let x1242 : Int := (if v.1.2.2.2.2.2.2.2.2.2.2.2.2.2.2.2.2.2.1 > x1241 then v.1.2.2.2.2.2.2.2.2.2.2.2.2.2.2.2.2.2.1 else x1241)
    bif v.1.2.2.2.2.2.2.2.2.2.2.2.2.2.2.2.2.2.2.1 then
      let x1243 : Int := (if v.1.2.2.2.2.2.2.2.2.2.2.2.2.2.2.2.2.2.2.2.2.1 > x1242 then v.1.2.2.2.2.2.2.2.2.2.2.2.2.2.2.2.2.2.2.2.2.1 else x1242)
      bif v.1.2.2.2.2.2.2.2.2.2.2.2.2.2.2.2.2.2.2.2.2.2.1 then
        let x1244 : Int := (if v.1.2.2.2.2.2.2.2.2.2.2.2.2.2.2.2.2.2.2.2.2.2.2.2.1 > x1243 then v.1.2.2.2.2.2.2.2.2.2.2.2.2.2.2.2.2.2.2.2.2.2.2.2.1 else x1243)
        bif v.1.2.2.2.2.2.2.2.2.2.2.2.2.2.2.2.2.2.2.2.2.2.2.2.2.1 then
          (F33_0 ((v.1.2.2.2.1, (v.1.2.2.2.2.1, v.1.2.2.2.2.2.1)), v.2)).bind fun r1245 =>
          (F34_0 (v.1.2.2.2.2.2.2.2.2.2.2.2.2.2.2.2.2.2.2.2.2.2.2.2.2.2.2.2.1, r1245.2)).bind fun r1246 =>
          (F35_0 v.1.2.2.2.2.2.2.2.2.2.2.2.2.2.2.2.2.2.2.2.2.2.2.2.2.2.2.2.2.2.1).bind fun r1247 =>
          (F33_0 ((v.1.2.2.2.2.2.2.2.2.2.2.1, (v.1.2.2.2.2.2.2.2.2.2.2.2.1, v.1.2.2.2.2.2.2.2.2.2.2.2.2.1)), r1246.2)).bind fun r1248 =>
          (F34_0 ((4 : Int), r1248.2)).bind fun r1249 =>
          some ((r1245.1, (v.1.2.2.1, (v.1.2.2.2.2.2.2.2.2.2.2.2.2.2.2.2.2.2.2.2.2.2.2.2.2.2.1, (r1246.1, (r1247, (x1244, (r1248.1, r1249.1))))))), r1249.2)
        else
          (F33_0 ((v.1.2.2.2.1, (v.1.2.2.2.2.1, v.1.2.2.2.2.2.1)), v.2)).bind fun r1250 =>
          (F34_0 (v.1.2.2.2.2.2.2.2.2.2.2.2.2.2.2.2.2.2.2.2.2.2.2.2.2.2.2.2.1, r1250.2)).bind fun r1251 =>
          (F35_0 v.1.2.2.2.2.2.2.2.2.2.2.2.2.2.2.2.2.2.2.2.2.2.2.2.2.2.2.2.2.2.1).bind fun r1252 =>
          (F33_0 ((v.1.2.2.2.2.2.2.2.2.2.2.1, (v.1.2.2.2.2.2.2.2.2.2.2.2.1, v.1.2.2.2.2.2.2.2.2.2.2.2.2.1)), r1251.2)).bind fun r1253 =>
          (F34_0 ((3 : Int), r1253.2)).bind fun r1254 =>
          some ((r1250.1, (v.1.2.2.1, (v.1.2.2.2.2.2.2.2.2.2.2.2.2.2.2.2.2.2.2.2.2.2.2.2.2.2.1, (r1251.1, (r1252, (x1244, (r1253.1, r1254.1))))))), r1254.2)
      else
        let x1255 : Int := (if v.1.2.2.2.2.2.2.2.2.2.2.2.2.2.2.2.2.2.2.2.2.2.2.2.1 > x1243 then v.1.2.2.2.2.2.2.2.2.2.2.2.2.2.2.2.2.2.2.2.2.2.2.2.1 else x1243)
        bif v.1.2.2.2.2.2.2.2.2.2.2.2.2.2.2.2.2.2.2.2.2.2.2.2.2.1 then
          (F33_0 ((v.1.2.2.2.1, (v.1.2.2.2.2.1, v.1.2.2.2.2.2.1)), v.2)).bind fun r1256 =>
          (F34_0 (v.1.2.2.2.2.2.2.2.2.2.2.2.2.2.2.2.2.2.2.2.2.2.2.2.2.2.2.2.1, r1256.2)).bind fun r1257 =>
          (F35_0 v.1.2.2.2.2.2.2.2.2.2.2.2.2.2.2.2.2.2.2.2.2.2.2.2.2.2.2.2.2.2.1).bind fun r1258 =>
          (F33_0 ((v.1.2.2.2.2.2.2.2.2.2.2.1, (v.1.2.2.2.2.2.2.2.2.2.2.2.1, v.1.2.2.2.2.2.2.2.2.2.2.2.2.1)), r1257.2)).bind fun r1259 =>
          (F34_0 ((3 : Int), r1259.2)).bind fun r1260 =>
          some ((r1256.1, (v.1.2.2.1, (v.1.2.2.2.2.2.2.2.2.2.2.2.2.2.2.2.2.2.2.2.2.2.2.2.2.2.1, (r1257.1, (r1258, (x1255, (r1259.1, r1260.1))))))), r1260.2)
        else
          (F33_0 ((v.1.2.2.2.1, (v.1.2.2.2.2.1, v.1.2.2.2.2.2.1)), v.2)).bind fun r1261 =>
          (F34_0 (v.1.2.2.2.2.2.2.2.2.2.2.2.2.2.2.2.2.2.2.2.2.2.2.2.2.2.2.2.1, r1261.2)).bind fun r1262 =>
          (F35_0 v.1.2.2.2.2.2.2.2.2.2.2.2.2.2.2.2.2.2.2.2.2.2.2.2.2.2.2.2.2.2.1).bind fun r1263 =>
          (F33_0 ((v.1.2.2.2.2.2.2.2.2.2.2.1, (v.1.2.2.2.2.2.2.2.2.2.2.2.1, v.1.2.2.2.2.2.2.2.2.2.2.2.2.1)), r1262.2)).bind fun r1264 =>
          (F34_0 ((2 : Int), r1264.2)).bind fun r1265 =>
          some ((r1261.1, (v.1.2.2.1, (v.1.2.2.2.2.2.2.2.2.2.2.2.2.2.2.2.2.2.2.2.2.2.2.2.2.2.1, (r1262.1, (r1263, (x1255, (r1264.1, r1265.1))))))), r1265.2)
    else
      let x1266 : Int := (if v.1.2.2.2.2.2.2.2.2.2.2.2.2.2.2.2.2.2.2.2.2.1 > x1242 then v.1.2.2.2.2.2.2.2.2.2.2.2.2.2.2.2.2.2.2.2.2.1 else x1242)
      bif v.1.2.2.2.2.2.2.2.2.2.2.2.2.2.2.2.2.2.2.2.2.2.1 then
        let x1267 : Int := (if v.1.2.2.2.2.2.2.2.2.2.2.2.2.2.2.2.2.2.2.2.2.2.2.2.1 > x1266 then v.1.2.2.2.2.2.2.2.2.2.2.2.2.2.2.2.2.2.2.2.2.2.2.2.1 else x1266)
        bif v.1.2.2.2.2.2.2.2.2.2.2.2.2.2.2.2.2.2.2.2.2.2.2.2.2.1 then
          (F33_0 ((v.1.2.2.2.1, (v.1.2.2.2.2.1, v.1.2.2.2.2.2.1)), v.2)).bind fun r1268 =>
          (F34_0 (v.1.2.2.2.2.2.2.2.2.2.2.2.2.2.2.2.2.2.2.2.2.2.2.2.2.2.2.2.1, r1268.2)).bind fun r1269 =>
          (F35_0 v.1.2.2.2.2.2.2.2.2.2.2.2.2.2.2.2.2.2.2.2.2.2.2.2.2.2.2.2.2.2.1).bind fun r1270 =>
          (F33_0 ((v.1.2.2.2.2.2.2.2.2.2.2.1, (v.1.2.2.2.2.2.2.2.2.2.2.2.1, v.1.2.2.2.2.2.2.2.2.2.2.2.2.1)), r1269.2)).bind fun r1271 =>
          (F34_0 ((3 : Int), r1271.2)).bind fun r1272 =>
          some ((r1268.1, (v.1.2.2.1, (v.1.2.2.2.2.2.2.2.2.2.2.2.2.2.2.2.2.2.2.2.2.2.2.2.2.2.1, (r1269.1, (r1270, (x1267, (r1271.1, r1272.1))))))), r1272.2)
        else
          (F33_0 ((v.1.2.2.2.1, (v.1.2.2.2.2.1, v.1.2.2.2.2.2.1)), v.2)).bind fun r1273 =>
          (F34_0 (v.1.2.2.2.2.2.2.2.2.2.2.2.2.2.2.2.2.2.2.2.2.2.2.2.2.2.2.2.1, r1273.2)).bind fun r1274 =>
          (F35_0 v.1.2.2.2.2.2.2.2.2.2.2.2.2.2.2.2.2.2.2.2.2.2.2.2.2.2.2.2.2.2.1).bind fun r1275 =>
          (F33_0 ((v.1.2.2.2.2.2.2.2.2.2.2.1, (v.1.2.2.2.2.2.2.2.2.2.2.2.1, v.1.2.2.2.2.2.2.2.2.2.2.2.2.1)), r1274.2)).bind fun r1276 =>
          (F34_0 ((2 : Int), r1276.2)).bind fun r1277 =>
          some ((r1273.1, (v.1.2.2.1, (v.1.2.2.2.2.2.2.2.2.2.2.2.2.2.2.2.2.2.2.2.2.2.2.2.2.2.1, (r1274.1, (r1275, (x1267, (r1276.1, r1277.1))))))), r1277.2)
      else
        let x1278 : Int := (if v.1.2.2.2.2.2.2.2.2.2.2.2.2.2.2.2.2.2.2.2.2.2.2.2.1 > x1266 then v.1.2.2.2.2.2.2.2.2.2.2.2.2.2.2.2.2.2.2.2.2.2.2.2.1 else x1266)
        bif v.1.2.2.2.2.2.2.2.2.2.2.2.2.2.2.2.2.2.2.2.2.2.2.2.2.1 then
          (F33_0 ((v.1.2.2.2.1, (v.1.2.2.2.2.1, v.1.2.2.2.2.2.1)), v.2)).bind fun r1279 =>
          (F34_0 (v.1.2.2.2.2.2.2.2.2.2.2.2.2.2.2.2.2.2.2.2.2.2.2.2.2.2.2.2.1, r1279.2)).bind fun r1280 =>
          (F35_0 v.1.2.2.2.2.2.2.2.2.2.2.2.2.2.2.2.2.2.2.2.2.2.2.2.2.2.2.2.2.2.1).bind fun r1281 =>
          (F33_0 ((v.1.2.2.2.2.2.2.2.2.2.2.1, (v.1.2.2.2.2.2.2.2.2.2.2.2.1, v.1.2.2.2.2.2.2.2.2.2.2.2.2.1)), r1280.2)).bind fun r1282 =>
          (F34_0 ((2 : Int), r1282.2)).bind fun r1283 =>
          some ((r1279.1, (v.1.2.2.1, (v.1.2.2.2.2.2.2.2.2.2.2.2.2.2.2.2.2.2.2.2.2.2.2.2.2.2.1, (r1280.1, (r1281, (x1278, (r1282.1, r1283.1))))))), r1283.2)
        else
          (F33_0 ((v.1.2.2.2.1, (v.1.2.2.2.2.1, v.1.2.2.2.2.2.1)), v.2)).bind fun r1284 =>
          (F34_0 (v.1.2.2.2.2.2.2.2.2.2.2.2.2.2.2.2.2.2.2.2.2.2.2.2.2.2.2.2.1, r1284.2)).bind fun r1285 =>
          (F35_0 v.1.2.2.2.2.2.2.2.2.2.2.2.2.2.2.2.2.2.2.2.2.2.2.2.2.2.2.2.2.2.1).bind fun r1286 =>
          (F33_0 ((v.1.2.2.2.2.2.2.2.2.2.2.1, (v.1.2.2.2.2.2.2.2.2.2.2.2.1, v.1.2.2.2.2.2.2.2.2.2.2.2.2.1)), r1285.2)).bind fun r1287 =>
          (F34_0 ((1 : Int), r1287.2)).bind fun r1288 =>
          some ((r1284.1, (v.1.2.2.1, (v.1.2.2.2.2.2.2.2.2.2.2.2.2.2.2.2.2.2.2.2.2.2.2.2.2.2.1, (r1285.1, (r1286, (x1278, (r1287.1, r1288.1))))))), r1288.2)
  else
    let x1289 : Int := (if v.1.2.2.2.2.2.2.2.2.2.2.2.2.2.2.2.2.2.1 > x1241 then v.1.2.2.2.2.2.2.2.2.2.2.2.2.2.2.2.2.2.1 else x1241)
    bif v.1.2.2.2.2.2.2.2.2.2.2.2.2.2.2.2.2.2.2.1 then
      let x1290 : Int := (if v.1.2.2.2.2.2.2.2.2.2.2.2.2.2.2.2.2.2.2.2.2.1 > x1289 then v.1.2.2.2.2.2.2.2.2.2.2.2.2.2.2.2.2.2.2.2.2.1 else x1289)
      bif v.1.2.2.2.2.2.2.2.2.2.2.2.2.2.2.2.2.2.2.2.2.2.1 then
        let x1291 : Int := (if v.1.2.2.2.2.2.2.2.2.2.2.2.2.2.2.2.2.2.2.2.2.2.2.2.1 > x1290 then v.1.2.2.2.2.2.2.2.2.2.2.2.2.2.2.2.2.2.2.2.2.2.2.2.1 else x1290)
        bif v.1.2.2.2.2.2.2.2.2.2.2.2.2.2.2.2.2.2.2.2.2.2.2.2.2.1 then
          (F33_0 ((v.1.2.2.2.1, (v.1.2.2.2.2.1, v.1.2.2.2.2.2.1)), v.2)).bind fun r1292 =>
          (F34_0 (v.1.2.2.2.2.2.2.2.2.2.2.2.2.2.2.2.2.2.2.2.2.2.2.2.2.2.2.2.1, r1292.2)).bind fun r1293 =>
          (F35_0 v.1.2.2.2.2.2.2.2.2.2.2.2.2.2.2.2.2.2.2.2.2.2.2.2.2.2.2.2.2.2.1).bind fun r1294 =>
          (F33_0 ((v.1.2.2.2.2.2.2.2.2.2.2.1, (v.1.2.2.2.2.2.2.2.2.2.2.2.1, v.1.2.2.2.2.2.2.2.2.2.2.2.2.1)), r1293.2)).bind fun r1295 =>
          (F34_0 ((3 : Int), r1295.2)).bind fun r1296 =>
          some ((r1292.1, (v.1.2.2.1, (v.1.2.2.2.2.2.2.2.2.2.2.2.2.2.2.2.2.2.2.2.2.2.2.2.2.2.1, (r1293.1, (r1294, (x1291, (r1295.1, r1296.1))))))), r1296.2)
        else
          (F33_0 ((v.1.2.2.2.1, (v.1.2.2.2.2.1, v.1.2.2.2.2.2.1)), v.2)).bind fun r1297 =>
          (F34_0 (v.1.2.2.2.2.2.2.2.2.2.2.2.2.2.2.2.2.2.2.2.2.2.2.2.2.2.2.2.1, r1297.2)).bind fun r1298 =>
          (F35_0 v.1.2.2.2.2.2.2.2.2.2.2.2.2.2.2.2.2.2.2.2.2.2.2.2.2.2.2.2.2.2.1).bind fun r1299 =>
          (F33_0 ((v.1.2.2.2.2.2.2.2.2.2.2.1, (v.1.2.2.2.2.2.2.2.2.2.2.2.1, v.1.2.2.2.2.2.2.2.2.2.2.2.2.1)), r1298.2)).bind fun r1300 =>
          (F34_0 ((2 : Int), r1300.2)).bind fun r1301 =>
          some ((r1297.1, (v.1.2.2.1, (v.1.2.2.2.2.2.2.2.2.2.2.2.2.2.2.2.2.2.2.2.2.2.2.2.2.2.1, (r1298.1, (r1299, (x1291, (r1300.1, r1301.1))))))), r1301.2)
      else
        let x1302 : Int := (if v.1.2.2.2.2.2.2.2.2.2.2.2.2.2.2.2.2.2.2.2.2.2.2.2.1 > x1290 then v.1.2.2.2.2.2.2.2.2.2.2.2.2.2.2.2.2.2.2.2.2.2.2.2.1 else x1290)
        bif v.1.2.2.2.2.2.2.2.2.2.2.2.2.2.2.2.2.2.2.2.2.2.2.2.2.1 then
          (F33_0 ((v.1.2.2.2.1, (v.1.2.2.2.2.1, v.1.2.2.2.2.2.1)), v.2)).bind fun r1303 =>
          (F34_0 (v.1.2.2.2.2.2.2.2.2.2.2.2.2.2.2.2.2.2.2.2.2.2.2.2.2.2.2.2.1, r1303.2)).bind fun r1304 =>
          (F35_0 v.1.2.2.2.2.2.2.2.2.2.2.2.2.2.2.2.2.2.2.2.2.2.2.2.2.2.2.2.2.2.1).bind fun r1305 =>
          (F33_0 ((v.1.2.2.2.2.2.2.2.2.2.2.1, (v.1.2.2.2.2.2.2.2.2.2.2.2.1, v.1.2.2.2.2.2.2.2.2.2.2.2.2.1)), r1304.2)).bind fun r1306 =>
          (F34_0 ((2 : Int), r1306.2)).bind fun r1307 =>
          some ((r1303.1, (v.1.2.2.1, (v.1.2.2.2.2.2.2.2.2.2.2.2.2.2.2.2.2.2.2.2.2.2.2.2.2.2.1, (r1304.1, (r1305, (x1302, (r1306.1, r1307.1))))))), r1307.2)
        else
          (F33_0 ((v.1.2.2.2.1, (v.1.2.2.2.2.1, v.1.2.2.2.2.2.1)), v.2)).bind fun r1308 =>
          (F34_0 (v.1.2.2.2.2.2.2.2.2.2.2.2.2.2.2.2.2.2.2.2.2.2.2.2.2.2.2.2.1, r1308.2)).bind fun r1309 =>
          (F35_0 v.1.2.2.2.2.2.2.2.2.2.2.2.2.2.2.2.2.2.2.2.2.2.2.2.2.2.2.2.2.2.1).bind fun r1310 =>
          (F33_0 ((v.1.2.2.2.2.2.2.2.2.2.2.1, (v.1.2.2.2.2.2.2.2.2.2.2.2.1, v.1.2.2.2.2.2.2.2.2.2.2.2.2.1)), r1309.2)).bind fun r1311 =>
          (F34_0 ((1 : Int), r1311.2)).bind fun r1312 =>
          some ((r1308.1, (v.1.2.2.1, (v.1.2.2.2.2.2.2.2.2.2.2.2.2.2.2.2.2.2.2.2.2.2.2.2.2.2.1, (r1309.1, (r1310, (x1302, (r1311.1, r1312.1))))))), r1312.2)
    else
      let x1313 : Int := (if v.1.2.2.2.2.2.2.2.2.2.2.2.2.2.2.2.2.2.2.2.2.1 > x1289 then v.1.2.2.2.2.2.2.2.2.2.2.2.2.2.2.2.2.2.2.2.2.1 else x1289)
      bif v.1.2.2.2.2.2.2.2.2.2.2.2.2.2.2.2.2.2.2.2.2.2.1 then
        let x1314 : Int := (if v.1.2.2.2.2.2.2.2.2.2.2.2.2.2.2.2.2.2.2.2.2.2.2.2.1 > x1313 then v.1.2.2.2.2.2.2.2.2.2.2.2.2.2.2.2.2.2.2.2.2.2.2.2.1 else x1313)
        bif v.1.2.2.2.2.2.2.2.2.2.2.2.2.2.2.2.2.2.2.2.2.2.2.2.2.1 then
          (F33_0 ((v.1.2.2.2.1, (v.1.2.2.2.2.1, v.1.2.2.2.2.2.1)), v.2)).bind fun r1315 =>
          (F34_0 (v.1.2.2.2.2.2.2.2.2.2.2.2.2.2.2.2.2.2.2.2.2.2.2.2.2.2.2.2.1, r1315.2)).bind fun r1316 =>
          (F35_0 v.1.2.2.2.2.2.2.2.2.2.2.2.2.2.2.2.2.2.2.2.2.2.2.2.2.2.2.2.2.2.1).bind fun r1317 =>
          (F33_0 ((v.1.2.2.2.2.2.2.2.2.2.2.1, (v.1.2.2.2.2.2.2.2.2.2.2.2.1, v.1.2.2.2.2.2.2.2.2.2.2.2.2.1)), r1316.2)).bind fun r1318 =>
          (F34_0 ((2 : Int), r1318.2)).bind fun r1319 =>
          some ((r1315.1, (v.1.2.2.1, (v.1.2.2.2.2.2.2.2.2.2.2.2.2.2.2.2.2.2.2.2.2.2.2.2.2.2.1, (r1316.1, (r1317, (x1314, (r1318.1, r1319.1))))))), r1319.2)
        else
          (F33_0 ((v.1.2.2.2.1, (v.1.2.2.2.2.1, v.1.2.2.2.2.2.1)), v.2)).bind fun r1320 =>
          (F34_0 (v.1.2.2.2.2.2.2.2.2.2.2.2.2.2.2.2.2.2.2.2.2.2.2.2.2.2.2.2.1, r1320.2)).bind fun r1321 =>
          (F35_0 v.1.2.2.2.2.2.2.2.2.2.2.2.2.2.2.2.2.2.2.2.2.2.2.2.2.2.2.2.2.2.1).bind fun r1322 =>
          (F33_0 ((v.1.2.2.2.2.2.2.2.2.2.2.1, (v.1.2.2.2.2.2.2.2.2.2.2.2.1, v.1.2.2.2.2.2.2.2.2.2.2.2.2.1)), r1321.2)).bind fun r1323 =>
          (F34_0 ((1 : Int), r1323.2)).bind fun r1324 =>
          some ((r1320.1, (v.1.2.2.1, (v.1.2.2.2.2.2.2.2.2.2.2.2.2.2.2.2.2.2.2.2.2.2.2.2.2.2.1, (r1321.1, (r1322, (x1314, (r1323.1, r1324.1))))))), r1324.2)
      else
        let x1325 : Int := (if v.1.2.2.2.2.2.2.2.2.2.2.2.2.2.2.2.2.2.2.2.2.2.2.2.1 > x1313 then v.1.2.2.2.2.2.2.2.2.2.2.2.2.2.2.2.2.2.2.2.2.2.2.2.1 else x1313)
        bif v.1.2.2.2.2.2.2.2.2.2.2.2.2.2.2.2.2.2.2.2.2.2.2.2.2.1 then
          (F33_0 ((v.1.2.2.2.1, (v.1.2.2.2.2.1, v.1.2.2.2.2.2.1)), v.2)).bind fun r1326 =>
          (F34_0 (v.1.2.2.2.2.2.2.2.2.2.2.2.2.2.2.2.2.2.2.2.2.2.2.2.2.2.2.2.1, r1326.2)).bind fun r1327 =>
          (F35_0 v.1.2.2.2.2.2.2.2.2.2.2.2.2.2.2.2.2.2.2.2.2.2.2.2.2.2.2.2.2.2.1).bind fun r1328 =>
          (F33_0 ((v.1.2.2.2.2.2.2.2.2.2.2.1, (v.1.2.2.2.2.2.2.2.2.2.2.2.1, v.1.2.2.2.2.2.2.2.2.2.2.2.2.1)), r1327.2)).bind fun r1329 =>
          (F34_0 ((1 : Int), r1329.2)).bind fun r1330 =>
          some ((r1326.1, (v.1.2.2.1, (v.1.2.2.2.2.2.2.2.2.2.2.2.2.2.2.2.2.2.2.2.2.2.2.2.2.2.1, (r1327.1, (r1328, (x1325, (r1329.1, r1330.1))))))), r1330.2)
        else
          (F33_0 ((v.1.2.2.2.1, (v.1.2.2.2.2.1, v.1.2.2.2.2.2.1)), v.2)).bind fun r1331 =>
          (F34_0 (v.1.2.2.2.2.2.2.2.2.2.2.2.2.2.2.2.2.2.2.2.2.2.2.2.2.2.2.2.1, r1331.2)).bind fun r1332 =>
          (F35_0 v.1.2.2.2.2.2.2.2.2.2.2.2.2.2.2.2.2.2.2.2.2.2.2.2.2.2.2.2.2.2.1).bind fun r1333 =>
          (F33_0 ((v.1.2.2.2.2.2.2.2.2.2.2.1, (v.1.2.2.2.2.2.2.2.2.2.2.2.1, v.1.2.2.2.2.2.2.2.2.2.2.2.2.1)), r1332.2)).bind fun r1334 =>
          (F34_0 ((0 : Int), r1334.2)).bind fun r1335 =>
          some ((r1331.1, (v.1.2.2.1, (v.1.2.2.2.2.2.2.2.2.2.2.2.2.2.2.2.2.2.2.2.2.2.2.2.2.2.1, (r1332.1, (r1333, (x1325, (r1334.1, r1335.1))))))), r1335.2)

noncomputable def k16_0 : List (Known Try.prog E) := [Known.of envOk [5, 1, 1, 1] [(.ptr 0 0 54 [.keep]), .keep, .keep, .keep] v33_0 F33_0 w33_0 ok33_0, Known.of envOk [5, 1] [(.ptr 0 0 54 [.keep]), .keep] v34_0 F34_0 w34_0 ok34_0, Known.of envOk [1] [.keep] v35_0 F35_0 w35_0 ok35_0]
noncomputable def L16_0 (n id : Nat) (st : St G) : Option ((Int × Int × Int × Int × Int × Int × Int × Int) × Bool) := none
set_option maxRecDepth 100000 in
theorem e16_0 (n : Nat) (v : (Int × Int × Int × Int × Int × Int × Int × Int × Int × Int × Int × Int × Int × Int × Int × Bool × Int × Int × Bool × Int × Int × Bool × Int × Int × Bool × Int × Bool × Int × Int × Int × Int × Int × Bool × Bool × Int × Int × Int × Int × Int × Bool × Bool) × Bool) : ev Try.prog E (oracle k16_0) Try.f16.ntmps (fun x => mem x []) (L16_0 n) (finA Try.prog E Try.f16.results.toList [(.ptr 0 0 54 [.keep])] w16_0.alts) 4000 [.code (Try.f16.body.getD .skip)] (argSt (v16_0.enc v)) = F16_0 v := by kernel_rfl
theorem ok16_0 : FnOk Try.prog E 16 v16_0.enc F16_0 w16_0.enc :=
  fn_known (fn := Try.f16) (c := (Try.f16.body.getD .skip)) Try.func16 (by kernel_rfl) rfl envOk (oracle_ok k16_0) mixed v16_0 F16_0 w16_0 [(.ptr 0 0 54 [.keep])] [] 4000 L16_0 (by kernel_rfl)
    (fun _ h => nomatch h) (fun v _ h => ⟨0, (e16_0 _ v).trans h⟩) (fun _ => by kernel_rfl) (fun _ => by kernel_rfl) (fun _ _ => by kernel_rfl)
/- chicane/wire.marked -/
abbrev A75_0 : Type := ByteArray
abbrev R75_0 : Type := Int × Int × Int × Int
def v75_0 : Pk G ByteArray := (Pk.fst (pk (Sh.fst (Sh.cons Sh.str Sh.nil)) Sh.hnil))
def w75_0 : Wk G (Int × Int × Int × Int) := (Wk.one [(.agg [.keep, .keep, .keep, .keep])] (Pk.fst (pk (Sh.fst (Sh.cons (Sh.agg (Sh.cons (Sh.int .u8) (Sh.cons (Sh.int .u8) (Sh.cons (Sh.int .u8) (Sh.fst (Sh.cons (Sh.int .u8) Sh.nil)))))) Sh.nil)) Sh.hnil)))
def F75_0 (v : ByteArray) : Option (Int × Int × Int × Int) :=
  some ((if 0 < (v).size then byteI v 0 else (0 : Int)), ((if 1 < (v).size then byteI v 1 else (0 : Int)), ((if 2 < (v).size then byteI v 2 else (0 : Int)), (if 3 < (v).size then byteI v 3 else (0 : Int)))))

noncomputable def k75_0 : List (Known Try.prog E) := []
noncomputable def L75_0 (n id : Nat) (st : St G) : Option (Int × Int × Int × Int) := none
set_option maxRecDepth 100000 in
theorem e75_0 (n : Nat) (v : ByteArray) : ev Try.prog E (oracle k75_0) Try.f75.ntmps (fun x => mem x []) (L75_0 n) (finA Try.prog E Try.f75.results.toList [] w75_0.alts) 4000 [.code (Try.f75.body.getD .skip)] (argSt (v75_0.enc v)) = F75_0 v := by kernel_rfl
theorem ok75_0 : FnOk Try.prog E 75 v75_0.enc F75_0 w75_0.enc :=
  fn_known (fn := Try.f75) (c := (Try.f75.body.getD .skip)) Try.func75 (by kernel_rfl) rfl envOk (oracle_ok k75_0) mixed v75_0 F75_0 w75_0 [] [] 4000 L75_0 (by kernel_rfl)
    (fun _ h => nomatch h) (fun v _ h => ⟨0, (e75_0 _ v).trans h⟩) (fun _ => by kernel_rfl) (fun _ => by kernel_rfl) (fun _ _ => by kernel_rfl)
/- (*chicane/wire.Out).Mark -/
abbrev A36_0 : Type := ByteArray × List Int
abbrev R36_0 : Type := List Int
def v36_0 : Pk G (ByteArray × List Int) := (pk (Sh.snd (Sh.cons (Sh.ptr 0 0) (Sh.fst (Sh.cons Sh.str Sh.nil)))) (Sh.snd (Sh.hfix 0 96 (Sh.snd (Sh.cons (Sh.osl 1) Sh.nil)) (Sh.fst (Sh.hrow 1 5 Sh.hnil)))))
def w36_0 : Wk G (List Int) := (Wk.one [] (Pk.snd (pk Sh.nil (Sh.snd (Sh.hfix 0 96 (Sh.snd (Sh.cons (Sh.osl 2) Sh.nil)) (Sh.fst (Sh.hrow 2 5 Sh.hnil)))))))
def F36_0 (v : ByteArray × List Int) : Option (List Int) :=
  (F75_0 v.1).bind fun r1344 =>
  (chk (decide (((v.2).length + (([r1344.1, r1344.2.1, r1344.2.2.1, r1344.2.2.2] : List Int)).length) * 1 ≤ 140737488355328))).bind fun _ =>
  let x1345 : List Int := (v.2 ++ ([r1344.1, r1344.2.1, r1344.2.2.1, r1344.2.2.2] : List Int))
  some (x1345)

noncomputable def k36_0 : List (Known Try.prog E) := [Known.of envOk [3] [.keep] v75_0 F75_0 w75_0 ok75_0]
noncomputable def L36_0 (n id : Nat) (st : St G) : Option (List Int) := none
set_option maxRecDepth 100000 in
theorem e36_0 (n : Nat) (v : ByteArray × List Int) : ev Try.prog E (oracle k36_0) Try.f36.ntmps (fun x => mem x []) (L36_0 n) (finA Try.prog E Try.f36.results.toList [(.ptr 0 0 96 [(.own 2 5)])] w36_0.alts) 4000 [.code (Try.f36.body.getD .skip)] (argSt (v36_0.enc v)) = F36_0 v := by kernel_rfl
theorem ok36_0 : FnOk Try.prog E 36 v36_0.enc F36_0 w36_0.enc :=
  fn_known (fn := Try.f36) (c := (Try.f36.body.getD .skip)) Try.func36 (by kernel_rfl) rfl envOk (oracle_ok k36_0) mixed v36_0 F36_0 w36_0 [(.ptr 0 0 96 [(.own 2 5)])] [] 4000 L36_0 (by kernel_rfl)
    (fun _ h => nomatch h) (fun v _ h => ⟨0, (e36_0 _ v).trans h⟩) (fun _ => by kernel_rfl) (fun _ => by kernel_rfl) (fun _ _ => by kernel_rfl)
/- chicane/wire.low -/
abbrev A76_0 : Type := (Int × Int) × List Int
abbrev R76_0 : Type := List Int
def v76_0 : Pk G ((Int × Int) × List Int) := (pk (Sh.snd (Sh.cons (Sh.osl 0) (Sh.cons (Sh.int .u64) (Sh.fst (Sh.cons (Sh.int .i64) Sh.nil))))) (Sh.fst (Sh.hrow 0 5 Sh.hnil)))
def w76_0 : Wk G (List Int) := (Wk.one [(.own 1 5)] (Pk.snd (pk (Sh.snd (Sh.cons (Sh.osl 1) Sh.nil)) (Sh.fst (Sh.hrow 1 5 Sh.hnil)))))
def c76_0_2 : Pk G ((Int × Int × Int) × List Int) := (pk (Sh.snd (Sh.cons (Sh.osl 1) (Sh.cons (Sh.int .u64) (Sh.cons (Sh.int .i64) (Sh.fst (Sh.cons (Sh.int .i64) Sh.nil)))))) (Sh.fst (Sh.hrow 1 5 Sh.hnil)))
def B76_0_2 (K : (((Int × Int × Int) × List Int) → Option (List Int))) (v : (Int × Int × Int) × List Int) : Option (List Int) :=
  bif (decide (v.1.2.2 < v.1.2.1)) then
    let x1360 : Int := (IntKind.wrap .u8 v.1.1)
    (chk (decide (((v.2).length + (([x1360] : List Int)).length) * 1 ≤ 140737488355328))).bind fun _ =>
    let x1361 : List Int := (v.2 ++ ([x1360] : List Int))
    let x1362 : Int := (Int.fdiv v.1.1 (2 ^ 8))
    let x1363 : Int := (IntKind.wrap .i64 (v.1.2.2 + (1 : Int)))
    K ((x1362, (v.1.2.1, x1363)), x1361)
  else
    some (v.2)

def E76_0 (K : (((Int × Int × Int) × List Int) → Option (List Int))) (v : (Int × Int) × List Int) : Option (List Int) :=
  K ((v.1.1, (v.1.2, (0 : Int))), v.2)

def K76_0 : Nat → (((Int × Int × Int) × List Int) → Option (List Int))
  | 0 => (fun _ => none)
  | n + 1 => (B76_0_2 (K76_0 n))
def fuel76_0 (v : (Int × Int) × List Int) : Nat := 1000
def F76_0 (v : (Int × Int) × List Int) : Option (List Int) := E76_0 (K76_0 (fuel76_0 v)) v
noncomputable def k76_0 : List (Known Try.prog E) := []
def s76_0_2 : List (Nat × Pat) := [(0, (.own 1 5)), (1, .keep), (7, .keep), (8, .keep)]
noncomputable def L76_0 (n id : Nat) (st : St G) : Option (List Int) := match Nat.beq id 2 with | true => cutK Try.prog s76_0_2 [] c76_0_2.dec (K76_0 n) st | false => none
set_option maxRecDepth 100000 in
theorem e76_0 (n : Nat) (v : (Int × Int) × List Int) : ev Try.prog E (oracle k76_0) Try.f76.ntmps (fun x => mem x [2]) (L76_0 n) (finA Try.prog E Try.f76.results.toList [] w76_0.alts) 4000 [.code (Try.f76.body.getD .skip)] (argSt (v76_0.enc v)) = E76_0 (K76_0 n) v := by kernel_rfl
set_option maxRecDepth 100000 in
theorem b76_0_2 (n : Nat) (v : (Int × Int × Int) × List Int) : evCut Try.prog E (oracle k76_0) Try.f76.ntmps (fun x => mem x [2]) (L76_0 n) (finA Try.prog E Try.f76.results.toList [] w76_0.alts) 4000 (todoAt (Try.f76.body.getD .skip) 2) (cutSt s76_0_2 (c76_0_2.enc v)) = B76_0_2 (K76_0 n) v := by kernel_rfl
theorem ok76_0 : FnOk Try.prog E 76 v76_0.enc F76_0 w76_0.enc :=
  fn_known (fn := Try.f76) (c := (Try.f76.body.getD .skip)) Try.func76 (by kernel_rfl) rfl envOk (oracle_ok k76_0) mixed v76_0 F76_0 w76_0 [] [2] 4000 L76_0 (by kernel_rfl)
    (List.forall_mem_cons.2 ⟨⟨_, s76_0_2, c76_0_2.dec, c76_0_2.enc, fun n => (K76_0 n), c76_0_2.ok, fun _ _ => rfl, fun _ => rfl, fun n v _ h => (b76_0_2 n v).trans h⟩, fun _ h => (nomatch h)⟩) (fun v _ h => ⟨fuel76_0 v, (e76_0 _ v).trans h⟩) (fun _ => by kernel_rfl) (fun _ => by kernel_rfl) (fun _ _ => by kernel_rfl)
/- (*chicane/wire.Out).Num -/
abbrev A37_0 : Type := Int × List Int
abbrev R37_0 : Type := List Int
def v37_0 : Pk G (Int × List Int) := (pk (Sh.snd (Sh.cons (Sh.ptr 0 0) (Sh.fst (Sh.cons (Sh.int .i64) Sh.nil)))) (Sh.snd (Sh.hfix 0 96 (Sh.snd (Sh.cons (Sh.osl 1) Sh.nil)) (Sh.fst (Sh.hrow 1 5 Sh.hnil)))))
def w37_0 : Wk G (List Int) := (Wk.one [] (Pk.snd (pk Sh.nil (Sh.snd (Sh.hfix 0 96 (Sh.snd (Sh.cons (Sh.osl 2) Sh.nil)) (Sh.fst (Sh.hrow 2 5 Sh.hnil)))))))
def F37_0 (v : Int × List Int) : Option (List Int) :=
  let x1367 : Int := (IntKind.wrap .u64 v.1)
  (F76_0 ((x1367, (8 : Int)), v.2)).bind fun r1368 =>
  some (r1368)

noncomputable def k37_0 : List (Known Try.prog E) := [Known.of envOk [7, 1, 1] [(.own 0 5), .keep, .keep] v76_0 F76_0 w76_0 ok76_0]
noncomputable def L37_0 (n id : Nat) (st : St G) : Option (List Int) := none
set_option maxRecDepth 100000 in
theorem e37_0 (n : Nat) (v : Int × List Int) : ev Try.prog E (oracle k37_0) Try.f37.ntmps (fun x => mem x []) (L37_0 n) (finA Try.prog E Try.f37.results.toList [(.ptr 0 0 96 [(.own 2 5)])] w37_0.alts) 4000 [.code (Try.f37.body.getD .skip)] (argSt (v37_0.enc v)) = F37_0 v := by kernel_rfl
theorem ok37_0 : FnOk Try.prog E 37 v37_0.enc F37_0 w37_0.enc :=
  fn_known (fn := Try.f37) (c := (Try.f37.body.getD .skip)) Try.func37 (by kernel_rfl) rfl envOk (oracle_ok k37_0) mixed v37_0 F37_0 w37_0 [(.ptr 0 0 96 [(.own 2 5)])] [] 4000 L37_0 (by kernel_rfl)
    (fun _ h => nomatch h) (fun v _ h => ⟨0, (e37_0 _ v).trans h⟩) (fun _ => by kernel_rfl) (fun _ => by kernel_rfl) (fun _ _ => by kernel_rfl)
/- (*chicane/wire.Out).Raw -/
abbrev A39_0 : Type := List Int × List Int
abbrev R39_0 : Type := List Int
def v39_0 : Pk G (List Int × List Int) := (pk (Sh.snd (Sh.cons (Sh.ptr 0 0) (Sh.fst (Sh.cons (Sh.ros 5) Sh.nil)))) (Sh.snd (Sh.hfix 0 96 (Sh.snd (Sh.cons (Sh.osl 1) Sh.nil)) (Sh.fst (Sh.hrow 1 5 Sh.hnil)))))
def w39_0 : Wk G (List Int) := (Wk.one [] (Pk.snd (pk Sh.nil (Sh.snd (Sh.hfix 0 96 (Sh.snd (Sh.cons (Sh.osl 2) Sh.nil)) (Sh.fst (Sh.hrow 2 5 Sh.hnil)))))))
def F39_0 (v : List Int × List Int) : Option (List Int) :=
  (chk (decide (((v.2).length + (v.1).length) * 1 ≤ 140737488355328))).bind fun _ =>
  let x1373 : List Int := (v.2 ++ v.1)
  some (x1373)

noncomputable def k39_0 : List (Known Try.prog E) := []
noncomputable def L39_0 (n id : Nat) (st : St G) : Option (List Int) := none
set_option maxRecDepth 100000 in
theorem e39_0 (n : Nat) (v : List Int × List Int) : ev Try.prog E (oracle k39_0) Try.f39.ntmps (fun x => mem x []) (L39_0 n) (finA Try.prog E Try.f39.results.toList [(.ptr 0 0 96 [(.own 2 5)])] w39_0.alts) 4000 [.code (Try.f39.body.getD .skip)] (argSt (v39_0.enc v)) = F39_0 v := by kernel_rfl
theorem ok39_0 : FnOk Try.prog E 39 v39_0.enc F39_0 w39_0.enc :=
  fn_known (fn := Try.f39) (c := (Try.f39.body.getD .skip)) Try.func39 (by kernel_rfl) rfl envOk (oracle_ok k39_0) mixed v39_0 F39_0 w39_0 [(.ptr 0 0 96 [(.own 2 5)])] [] 4000 L39_0 (by kernel_rfl)
    (fun _ h => nomatch h) (fun v _ h => ⟨0, (e39_0 _ v).trans h⟩) (fun _ => by kernel_rfl) (fun _ => by kernel_rfl) (fun _ _ => by kernel_rfl)
/- slices.Clone[[]byte,byte] -/
abbrev A77_n : Type := Unit
abbrev R77_n : Type := List Int
def v77_n : Pk G Unit := (Pk.snd (pk (Sh.snd (Sh.cons Sh.nilsl Sh.nil)) Sh.hnil))
def w77_n : Wk G (List Int) := (Wk.one [(.own 0 5)] (Pk.snd (pk (Sh.snd (Sh.cons (Sh.osl 0) Sh.nil)) (Sh.fst (Sh.hrow 0 5 Sh.hnil)))))
def F77_n (v : Unit) : Option (List Int) :=
  some ([] : List Int)

noncomputable def k77_n : List (Known Try.prog E) := []
noncomputable def L77_n (n id : Nat) (st : St G) : Option (List Int) := none
set_option maxRecDepth 100000 in
theorem e77_n (n : Nat) (v : Unit) : ev Try.prog E (oracle k77_n) Try.f77.ntmps (fun x => mem x []) (L77_n n) (finA Try.prog E Try.f77.results.toList [] w77_n.alts) 4000 [.code (Try.f77.body.getD .skip)] (argSt (v77_n.enc v)) = F77_n v := by kernel_rfl
theorem ok77_n : FnOk Try.prog E 77 v77_n.enc F77_n w77_n.enc :=
  fn_known (fn := Try.f77) (c := (Try.f77.body.getD .skip)) Try.func77 (by kernel_rfl) rfl envOk (oracle_ok k77_n) mixed v77_n F77_n w77_n [] [] 4000 L77_n (by kernel_rfl)
    (fun _ h => nomatch h) (fun v _ h => ⟨0, (e77_n _ v).trans h⟩) (fun _ => by kernel_rfl) (fun _ => by kernel_rfl) (fun _ _ => by kernel_rfl)
/- slices.Clone[[]byte,byte] -/
abbrev A77_r : Type := List Int
abbrev R77_r : Type := List Int
def v77_r : Pk G (List Int) := (Pk.fst (pk (Sh.fst (Sh.cons (Sh.rosn 5) Sh.nil)) Sh.hnil))
def w77_r : Wk G (List Int) := (Wk.one [(.own 0 5)] (Pk.snd (pk (Sh.snd (Sh.cons (Sh.osl 0) Sh.nil)) (Sh.fst (Sh.hrow 0 5 Sh.hnil)))))
def F77_r (v : List Int) : Option (List Int) :=
  (chk (decide (((([] : List Int)).length + (v).length) * 1 ≤ 140737488355328))).bind fun _ =>
  let x1377 : List Int := (([] : List Int) ++ v)
  some (x1377)

noncomputable def k77_r : List (Known Try.prog E) := []
noncomputable def L77_r (n id : Nat) (st : St G) : Option (List Int) := none
set_option maxRecDepth 100000 in
theorem e77_r (n : Nat) (v : List Int) : ev Try.prog E (oracle k77_r) Try.f77.ntmps (fun x => mem x []) (L77_r n) (finA Try.prog E Try.f77.results.toList [] w77_r.alts) 4000 [.code (Try.f77.body.getD .skip)] (argSt (v77_r.enc v)) = F77_r v := by kernel_rfl
theorem ok77_r : FnOk Try.prog E 77 v77_r.enc F77_r w77_r.enc :=
  fn_known (fn := Try.f77) (c := (Try.f77.body.getD .skip)) Try.func77 (by kernel_rfl) rfl envOk (oracle_ok k77_r) mixed v77_r F77_r w77_r [] [] 4000 L77_r (by kernel_rfl)
    (fun _ h => nomatch h) (fun v _ h => ⟨0, (e77_r _ v).trans h⟩) (fun _ => by kernel_rfl) (fun _ => by kernel_rfl) (fun _ _ => by kernel_rfl)
/- slices.Clone[[]byte,byte] -/
abbrev A77_0 : Type := List Int
abbrev R77_0 : Type := List Int
def v77_0 : Pk G (List Int) := (Pk.fst (pk (Sh.fst (Sh.cons (Sh.ros 5) Sh.nil)) Sh.hnil))
def w77_0 : Wk G (List Int) := (Wk.one [(.own 0 5)] (Pk.snd (pk (Sh.snd (Sh.cons (Sh.osl 0) Sh.nil)) (Sh.fst (Sh.hrow 0 5 Sh.hnil)))))
def F77_0 (v : List Int) : Option (List Int) := F77_r v
theorem on77_0 : FnOk Try.prog E 77 (fun _ : Unit => ([AV.nilsl], [])) F77_n w77_0.enc := ok77_n
theorem or77_0 : FnOk Try.prog E 77 (fun xs : List (G 5) => ([AV.rosn 5 xs], [])) F77_r w77_0.enc := ok77_r
theorem ok77_0 : FnOk Try.prog E 77 v77_0.enc F77_0 w77_0.enc := FnOk.split (e := 5) on77_0 or77_0 (fun _ h => (by kernel_rfl : F77_n () = F77_r []).trans h) (fun _ _ h => h)
/- (*chicane/wire.Out).Bytes -/
abbrev A40_0 : Type := List Int
abbrev R40_0 : Type := List Int × List Int
def v40_0 : Pk G (List Int) := (Pk.snd (pk (Sh.snd (Sh.cons (Sh.ptr 0 0) Sh.nil)) (Sh.snd (Sh.hfix 0 96 (Sh.snd (Sh.cons (Sh.osl 1) Sh.nil)) (Sh.fst (Sh.hrow 1 5 Sh.hnil))))))
def w40_0 : Wk G (List Int × List Int) := (Wk.one [(.own 2 5)] (Pk.snd (pk (Sh.snd (Sh.cons (Sh.osl 2) Sh.nil)) (Sh.hrow 2 5 (Sh.snd (Sh.hfix 0 96 (Sh.snd (Sh.cons (Sh.osl 1) Sh.nil)) (Sh.fst (Sh.hrow 1 5 Sh.hnil))))))))
def F40_0 (v : List Int) : Option (List Int × List Int) :=
  (F77_0 v).bind fun r1380 =>
  some (r1380, v)

noncomputable def k40_0 : List (Known Try.prog E) := [Known.of envOk [7] [(.ros 5)] v77_0 F77_0 w77_0 ok77_0]
noncomputable def L40_0 (n id : Nat) (st : St G) : Option (List Int × List Int) := none
set_option maxRecDepth 100000 in
theorem e40_0 (n : Nat) (v : List Int) : ev Try.prog E (oracle k40_0) Try.f40.ntmps (fun x => mem x []) (L40_0 n) (finA Try.prog E Try.f40.results.toList [(.own 1 5), (.ptr 0 0 96 [(.own 1 5)])] w40_0.alts) 4000 [.code (Try.f40.body.getD .skip)] (argSt (v40_0.enc v)) = F40_0 v := by kernel_rfl
theorem ok40_0 : FnOk Try.prog E 40 v40_0.enc F40_0 w40_0.enc :=
  fn_known (fn := Try.f40) (c := (Try.f40.body.getD .skip)) Try.func40 (by kernel_rfl) rfl envOk (oracle_ok k40_0) mixed v40_0 F40_0 w40_0 [(.own 1 5), (.ptr 0 0 96 [(.own 1 5)])] [] 4000 L40_0 (by kernel_rfl)
    (fun _ h => nomatch h) (fun v _ h => ⟨0, (e40_0 _ v).trans h⟩) (fun _ => by kernel_rfl) (fun _ => by kernel_rfl) (fun _ _ => by kernel_rfl)
/- chicane/telemetry.short -/
abbrev A38_0 : Type := Int × List Int
abbrev R38_0 : Type := List Int
def v38_0 : Pk G (Int × List Int) := (pk (Sh.snd (Sh.cons (Sh.osl 0) (Sh.fst (Sh.cons (Sh.int .i64) Sh.nil)))) (Sh.fst (Sh.hrow 0 5 Sh.hnil)))
def w38_0 : Wk G (List Int) := (Wk.one [(.own 1 5)] (Pk.snd (pk (Sh.snd (Sh.cons (Sh.osl 1) Sh.nil)) (Sh.fst (Sh.hrow 1 5 Sh.hnil)))))
def c38_0_2 : Pk G (Int × List Int) := (pk (Sh.snd (Sh.cons (Sh.osl 1) (Sh.fst (Sh.cons (Sh.int .u64) Sh.nil)))) (Sh.fst (Sh.hrow 1 5 Sh.hnil)))
def B38_0_2 (K : ((Int × List Int) → Option (List Int))) (v : Int × List Int) : Option (List Int) :=
  bif (decide (v.1 ≥ (128 : Int))) then
    let x1423 : Int := (IntKind.wrap .u8 v.1)
    let x1424 : Int := (Go.bits .or .u8 x1423 (128 : Int))
    (chk (decide (((v.2).length + (([x1424] : List Int)).length) * 1 ≤ 140737488355328))).bind fun _ =>
    let x1425 : List Int := (v.2 ++ ([x1424] : List Int))
    let x1426 : Int := (Int.fdiv v.1 (2 ^ 7))
    K (x1426, x1425)
  else
    let x1427 : Int := (IntKind.wrap .u8 v.1)
    (chk (decide (((v.2).length + (([x1427] : List Int)).length) * 1 ≤ 140737488355328))).bind fun _ =>
    let x1428 : List Int := (v.2 ++ ([x1427] : List Int))
    some (x1428)

def E38_0 (K : ((Int × List Int) → Option (List Int))) (v : Int × List Int) : Option (List Int) :=
  let x1418 : Int := (IntKind.wrap .i64 (v.1 * 2 ^ 1))
  let x1419 : Int := (IntKind.wrap .u64 x1418)
  let x1420 : Int := (Int.fdiv v.1 (2 ^ 63))
  let x1421 : Int := (IntKind.wrap .u64 x1420)
  let x1422 : Int := (Go.bits .xor .u64 x1419 x1421)
  K (x1422, v.2)

def K38_0 : Nat → ((Int × List Int) → Option (List Int))
  | 0 => (fun _ => none)
  | n + 1 => (B38_0_2 (K38_0 n))
def fuel38_0 (v : Int × List Int) : Nat := 1000
def F38_0 (v : Int × List Int) : Option (List Int) := E38_0 (K38_0 (fuel38_0 v)) v
noncomputable def k38_0 : List (Known Try.prog E) := []
def s38_0_2 : List (Nat × Pat) := [(0, (.own 1 5)), (5, .keep)]
noncomputable def L38_0 (n id : Nat) (st : St G) : Option (List Int) := match Nat.beq id 2 with | true => cutK Try.prog s38_0_2 [] c38_0_2.dec (K38_0 n) st | false => none
set_option maxRecDepth 100000 in
theorem e38_0 (n : Nat) (v : Int × List Int) : ev Try.prog E (oracle k38_0) Try.f38.ntmps (fun x => mem x [2]) (L38_0 n) (finA Try.prog E Try.f38.results.toList [] w38_0.alts) 4000 [.code (Try.f38.body.getD .skip)] (argSt (v38_0.enc v)) = E38_0 (K38_0 n) v := by kernel_rfl
set_option maxRecDepth 100000 in
theorem b38_0_2 (n : Nat) (v : Int × List Int) : evCut Try.prog E (oracle k38_0) Try.f38.ntmps (fun x => mem x [2]) (L38_0 n) (finA Try.prog E Try.f38.results.toList [] w38_0.alts) 4000 (todoAt (Try.f38.body.getD .skip) 2) (cutSt s38_0_2 (c38_0_2.enc v)) = B38_0_2 (K38_0 n) v := by kernel_rfl
theorem ok38_0 : FnOk Try.prog E 38 v38_0.enc F38_0 w38_0.enc :=
  fn_known (fn := Try.f38) (c := (Try.f38.body.getD .skip)) Try.func38 (by kernel_rfl) rfl envOk (oracle_ok k38_0) mixed v38_0 F38_0 w38_0 [] [2] 4000 L38_0 (by kernel_rfl)
    (List.forall_mem_cons.2 ⟨⟨_, s38_0_2, c38_0_2.dec, c38_0_2.enc, fun n => (K38_0 n), c38_0_2.ok, fun _ _ => rfl, fun _ => rfl, fun n v _ h => (b38_0_2 n v).trans h⟩, fun _ h => (nomatch h)⟩) (fun v _ h => ⟨fuel38_0 v, (e38_0 _ v).trans h⟩) (fun _ => by kernel_rfl) (fun _ => by kernel_rfl) (fun _ _ => by kernel_rfl)
/- chicane/telemetry.Pack -/
abbrev A18_0 : Type := List (Int × Int × Int × Int × Int × Int × Int × Int)
abbrev R18_0 : Type := List Int
def v18_0 : Pk G (List (Int × Int × Int × Int × Int × Int × Int × Int)) := (Pk.fst (pk (Sh.fst (Sh.cons (Sh.ros 56) Sh.nil)) Sh.hnil))
def w18_0 : Wk G (List Int) := (Wk.one [(.own 0 5)] (Pk.snd (pk (Sh.snd (Sh.cons (Sh.osl 0) Sh.nil)) (Sh.fst (Sh.hrow 0 5 Sh.hnil)))))
def c18_0_6 : Pk G (((List (Int × Int × Int × Int × Int × Int × Int × Int)) × Int) × List Int × List Int) := (pk (Sh.cons (Sh.ros 56) (Sh.snd (Sh.cons (Sh.ptr 0 0) (Sh.snd (Sh.cons (Sh.osl 2) (Sh.fst (Sh.cons (Sh.int .i64) Sh.nil))))))) (Sh.hrow 2 5 (Sh.snd (Sh.hfix 0 96 (Sh.snd (Sh.cons (Sh.osl 1) Sh.nil)) (Sh.fst (Sh.hrow 1 5 Sh.hnil))))))
def c18_0_10 : Pk G (((List (Int × Int × Int × Int × Int × Int × Int × Int)) × Int × Int × Int × (List (Int × Int × Int × Int × Int × Int × Int × Int)) × Int × Int) × List Int × List Int) := (pk (Sh.cons (Sh.ros 56) (Sh.snd (Sh.cons (Sh.ptr 0 0) (Sh.snd (Sh.cons (Sh.osl 2) (Sh.cons (Sh.int .i64) (Sh.cons (Sh.int .i64) (Sh.cons (Sh.int .i64) (Sh.cons (Sh.ros 56) (Sh.cons (Sh.int .i64) (Sh.fst (Sh.cons (Sh.int .i64) Sh.nil)))))))))))) (Sh.hrow 2 5 (Sh.snd (Sh.hfix 0 96 (Sh.snd (Sh.cons (Sh.osl 1) Sh.nil)) (Sh.fst (Sh.hrow 1 5 Sh.hnil))))))
def B18_0_6 (K : ((((List (Int × Int × Int × Int × Int × Int × Int × Int)) × Int) × List Int × List Int) → Option (List Int)) × ((((List (Int × Int × Int × Int × Int × Int × Int × Int)) × Int × Int × Int × (List (Int × Int × Int × Int × Int × Int × Int × Int)) × Int × Int) × List Int × List Int) → Option (List Int))) (v : ((List (Int × Int × Int × Int × Int × Int × Int × Int)) × Int) × List Int × List Int) : Option (List Int) :=
  bif (decide (v.1.2 < (8 : Int))) then
    K.2 ((v.1.1, (v.1.2, ((0 : Int), (v.1.2, (v.1.1, (((v.1.1).length : Int), (0 : Int))))))), v.2)
  else
    (F39_0 v.2).bind fun r1448 =>
    (F40_0 r1448).bind fun r1449 =>
    some (r1449.1)

def B18_0_10 (K : ((((List (Int × Int × Int × Int × Int × Int × Int × Int)) × Int) × List Int × List Int) → Option (List Int)) × ((((List (Int × Int × Int × Int × Int × Int × Int × Int)) × Int × Int × Int × (List (Int × Int × Int × Int × Int × Int × Int × Int)) × Int × Int) × List Int × List Int) → Option (List Int))) (v : ((List (Int × Int × Int × Int × Int × Int × Int × Int)) × Int × Int × Int × (List (Int × Int × Int × Int × Int × Int × Int × Int)) × Int × Int) × List Int × List Int) : Option (List Int) :=
  bif (decide (v.1.2.2.2.2.2.2 < v.1.2.2.2.2.2.1)) then
    (rdx v.1.2.2.2.2.1 v.1.2.2.2.2.2.2).bind fun (x1450 : Int × Int × Int × Int × Int × Int × Int × Int) =>
    (idx v.1.2.1 8).bind fun (x1451 : Nat) =>
    let x1452 : Int := (IntKind.wrap .i64 ((List.getD [x1450.1, x1450.2.1, x1450.2.2.1, x1450.2.2.2.1, x1450.2.2.2.2.1, x1450.2.2.2.2.2.1, x1450.2.2.2.2.2.2.1, x1450.2.2.2.2.2.2.2] x1451 0) - v.1.2.2.1))
    (F38_0 (x1452, v.2.1)).bind fun r1453 =>
    (idx v.1.2.1 8).bind fun (x1454 : Nat) =>
    let x1455 : Int := (IntKind.wrap .i64 (v.1.2.2.2.2.2.2 + (1 : Int)))
    K.2 ((v.1.1, (v.1.2.1, ((List.getD [x1450.1, x1450.2.1, x1450.2.2.1, x1450.2.2.2.1, x1450.2.2.2.2.1, x1450.2.2.2.2.2.1, x1450.2.2.2.2.2.2.1, x1450.2.2.2.2.2.2.2] x1454 0), (v.1.2.2.2.1, (v.1.2.2.2.2.1, (v.1.2.2.2.2.2.1, x1455)))))), (r1453, v.2.2))
  else
    let x1456 : Int := (IntKind.wrap .i64 (v.1.2.2.2.1 + (1 : Int)))
    K.1 ((v.1.1, x1456), v.2)

def E18_0 (K : ((((List (Int × Int × Int × Int × Int × Int × Int × Int)) × Int) × List Int × List Int) → Option (List Int)) × ((((List (Int × Int × Int × Int × Int × Int × Int × Int)) × Int × Int × Int × (List (Int × Int × Int × Int × Int × Int × Int × Int)) × Int × Int) × List Int × List Int) → Option (List Int))) (v : List (Int × Int × Int × Int × Int × Int × Int × Int)) : Option (List Int) :=
  (F36_0 (sc0, ([] : List Int))).bind fun r1446 =>
  (F37_0 (((v).length : Int), r1446)).bind fun r1447 =>
  K.1 ((v, (0 : Int)), (([] : List Int), r1447))

def K18_0 : Nat → ((((List (Int × Int × Int × Int × Int × Int × Int × Int)) × Int) × List Int × List Int) → Option (List Int)) × ((((List (Int × Int × Int × Int × Int × Int × Int × Int)) × Int × Int × Int × (List (Int × Int × Int × Int × Int × Int × Int × Int)) × Int × Int) × List Int × List Int) → Option (List Int))
  | 0 => (fun _ => none, fun _ => none)
  | n + 1 => (B18_0_6 (K18_0 n), B18_0_10 (K18_0 n))
def fuel18_0 (v : List (Int × Int × Int × Int × Int × Int × Int × Int)) : Nat := 1000
def F18_0 (v : List (Int × Int × Int × Int × Int × Int × Int × Int)) : Option (List Int) := E18_0 (K18_0 (fuel18_0 v)) v
noncomputable def k18_0 : List (Known Try.prog E) := [Known.of envOk [5, 3] [(.ptr 0 0 96 [(.own 1 5)]), .keep] v36_0 F36_0 w36_0 ok36_0, Known.of envOk [5, 1] [(.ptr 0 0 96 [(.own 1 5)]), .keep] v37_0 F37_0 w37_0 ok37_0, Known.of envOk [5, 7] [(.ptr 0 0 96 [(.own 1 5)]), (.ros 5)] v39_0 F39_0 w39_0 ok39_0, Known.of envOk [5] [(.ptr 0 0 96 [(.own 1 5)])] v40_0 F40_0 w40_0 ok40_0, Known.of envOk [7, 1] [(.own 0 5), .keep] v38_0 F38_0 w38_0 ok38_0]
def s18_0_10 : List (Nat × Pat) := [(0, (.ros 56)), (3, (.ptr 0 0 96 [(.own 1 5)])), (4, (.own 2 5)), (5, .keep), (6, .keep), (17, .keep), (20, (.ros 56)), (21, .keep), (22, .keep)]
def s18_0_6 : List (Nat × Pat) := [(0, (.ros 56)), (3, (.ptr 0 0 96 [(.own 1 5)])), (4, (.own 2 5)), (17, .keep)]
noncomputable def L18_0 (n id : Nat) (st : St G) : Option (List Int) := match Nat.beq id 6 with | true => cutK Try.prog s18_0_6 [] c18_0_6.dec (K18_0 n).1 st | false => match Nat.beq id 10 with | true => cutK Try.prog s18_0_10 [] c18_0_10.dec (K18_0 n).2 st | false => none
set_option maxRecDepth 100000 in
theorem e18_0 (n : Nat) (v : List (Int × Int × Int × Int × Int × Int × Int × Int)) : ev Try.prog E (oracle k18_0) Try.f18.ntmps (fun x => mem x [6, 10]) (L18_0 n) (finA Try.prog E Try.f18.results.toList [] w18_0.alts) 4000 [.code (Try.f18.body.getD .skip)] (argSt (v18_0.enc v)) = E18_0 (K18_0 n) v := by kernel_rfl
set_option maxRecDepth 100000 in
theorem b18_0_6 (n : Nat) (v : ((List (Int × Int × Int × Int × Int × Int × Int × Int)) × Int) × List Int × List Int) : evCut Try.prog E (oracle k18_0) Try.f18.ntmps (fun x => mem x [6, 10]) (L18_0 n) (finA Try.prog E Try.f18.results.toList [] w18_0.alts) 4000 (todoAt (Try.f18.body.getD .skip) 6) (cutSt s18_0_6 (c18_0_6.enc v)) = B18_0_6 (K18_0 n) v := by kernel_rfl
set_option maxRecDepth 100000 in
theorem b18_0_10 (n : Nat) (v : ((List (Int × Int × Int × Int × Int × Int × Int × Int)) × Int × Int × Int × (List (Int × Int × Int × Int × Int × Int × Int × Int)) × Int × Int) × List Int × List Int) : evCut Try.prog E (oracle k18_0) Try.f18.ntmps (fun x => mem x [6, 10]) (L18_0 n) (finA Try.prog E Try.f18.results.toList [] w18_0.alts) 4000 (todoAt (Try.f18.body.getD .skip) 10) (cutSt s18_0_10 (c18_0_10.enc v)) = B18_0_10 (K18_0 n) v := by kernel_rfl
theorem ok18_0 : FnOk Try.prog E 18 v18_0.enc F18_0 w18_0.enc :=
  fn_known (fn := Try.f18) (c := (Try.f18.body.getD .skip)) Try.func18 (by kernel_rfl) rfl envOk (oracle_ok k18_0) mixed v18_0 F18_0 w18_0 [] [6, 10] 4000 L18_0 (by kernel_rfl)
    (List.forall_mem_cons.2 ⟨⟨_, s18_0_6, c18_0_6.dec, c18_0_6.enc, fun n => (K18_0 n).1, c18_0_6.ok, fun _ _ => rfl, fun _ => rfl, fun n v _ h => (b18_0_6 n v).trans h⟩, List.forall_mem_cons.2 ⟨⟨_, s18_0_10, c18_0_10.dec, c18_0_10.enc, fun n => (K18_0 n).2, c18_0_10.ok, fun _ _ => rfl, fun _ => rfl, fun n v _ h => (b18_0_10 n v).trans h⟩, fun _ h => (nomatch h)⟩⟩) (fun v _ h => ⟨fuel18_0 v, (e18_0 _ v).trans h⟩) (fun _ => by kernel_rfl) (fun _ => by kernel_rfl) (fun _ _ => by kernel_rfl)
/- chicane/chicanelaw41.awake -/
abbrev A17_0 : Type := Unit
abbrev R17_0 : Type := Bool
def v17_0 : Pk G Unit := (Pk.snd (pk Sh.nil Sh.hnil))
def w17_0 : Wk G Bool := (Wk.one [.keep] (Pk.fst (pk (Sh.fst (Sh.cons Sh.bool Sh.nil)) Sh.hnil)))
def F17_0 (v : Unit) : Option Bool :=
  (F15_0 (((0 : Int), ((0 : Int), ((0 : Int), ((12884901888 : Int), ((17179869184 : Int), ((0 : Int), ((0 : Int), ((0 : Int), ((0 : Int), ((0 : Int), ((0 : Int), ((0 : Int), ((0 : Int), ((0 : Int), ((0 : Int), (false, ((0 : Int), ((0 : Int), (false, ((0 : Int), ((0 : Int), (false, ((0 : Int), ((0 : Int), (false, ((0 : Int), (false, ((-1 : Int), ((0 : Int), ((0 : Int), ((0 : Int), ((0 : Int), (false, (false, ((0 : Int), ((0 : Int), ((0 : Int), ((0 : Int), ((0 : Int), (false, false)))))))))))))))))))))))))))))))))))))))), false)).bind fun r1460 =>
  (F18_0 ([] : List (Int × Int × Int × Int × Int × Int × Int × Int))).bind fun r1461 =>
  bif (((r1461).length : Int) == (12 : Int)) then
    bif (r1460.1.1 == (21474836480 : Int)) then
      bif (r1460.1.2.2.2.1 == (-4294967296 : Int)) then
        some (!r1460.2)
      else
        some (false)
    else
      some (false)
  else
    some (false)

noncomputable def k17_0 : List (Known Try.prog E) := [Known.of envOk [5, 9] [(.ptr 0 0 52 [.keep]), (.agg [.keep, .keep, .keep, .keep, .keep, .keep, .keep, .keep, .keep, .keep, .keep, .keep, .keep, .keep, .keep, .keep, .keep, .keep, .keep, .keep, .keep, .keep, .keep, .keep, .keep, .keep, .keep, .keep, .keep, .keep, .keep, .keep, .keep, .keep, .keep, .keep, .keep, .keep, .keep, .keep, .keep])] v15_0 F15_0 w15_0 ok15_0, Known.of envOk [7] [(.ros 56)] v18_0 F18_0 w18_0 ok18_0]
noncomputable def L17_0 (n id : Nat) (st : St G) : Option Bool := none
set_option maxRecDepth 100000 in
theorem e17_0 (n : Nat) (v : Unit) : ev Try.prog E (oracle k17_0) Try.f17.ntmps (fun x => mem x []) (L17_0 n) (finA Try.prog E Try.f17.results.toList [] w17_0.alts) 4000 [.code (Try.f17.body.getD .skip)] (argSt (v17_0.enc v)) = F17_0 v := by kernel_rfl
theorem ok17_0 : FnOk Try.prog E 17 v17_0.enc F17_0 w17_0.enc :=
  fn_known (fn := Try.f17) (c := (Try.f17.body.getD .skip)) Try.func17 (by kernel_rfl) rfl envOk (oracle_ok k17_0) mixed v17_0 F17_0 w17_0 [] [] 4000 L17_0 (by kernel_rfl)
    (fun _ h => nomatch h) (fun v _ h => ⟨0, (e17_0 _ v).trans h⟩) (fun _ => by kernel_rfl) (fun _ => by kernel_rfl) (fun _ _ => by kernel_rfl)
/- chicane/chicanelaw41.TelemetryOf -/
abbrev A5_0 : Type := Int × Int × Int × Int × Int × Int × Int × Int × Int × Int × Int × Int × Int × Int × Int × Bool × Int × Int × Bool × Int × Int × Bool × Int × Int × Bool × Int × Bool × Int × Int × Int × Int × Int × Bool × Bool × Int × Int × Int × Int × Int × Bool × Bool
abbrev R5_0 : Type := Bool
def v5_0 : Pk G (Int × Int × Int × Int × Int × Int × Int × Int × Int × Int × Int × Int × Int × Int × Int × Bool × Int × Int × Bool × Int × Int × Bool × Int × Int × Bool × Int × Bool × Int × Int × Int × Int × Int × Bool × Bool × Int × Int × Int × Int × Int × Bool × Bool) := (Pk.fst (pk (Sh.fst (Sh.cons (Sh.agg (Sh.cons (Sh.int .i64) (Sh.cons (Sh.int .i64) (Sh.cons (Sh.int .i64) (Sh.cons (Sh.int .i64) (Sh.cons (Sh.int .i64) (Sh.cons (Sh.int .i64) (Sh.cons (Sh.int .i64) (Sh.cons (Sh.int .i64) (Sh.cons (Sh.int .i64) (Sh.cons (Sh.int .i64) (Sh.cons (Sh.int .i64) (Sh.cons (Sh.int .i64) (Sh.cons (Sh.int .i64) (Sh.cons (Sh.int .i64) (Sh.cons (Sh.int .i64) (Sh.cons Sh.bool (Sh.cons (Sh.int .i64) (Sh.cons (Sh.int .i64) (Sh.cons Sh.bool (Sh.cons (Sh.int .i64) (Sh.cons (Sh.int .i64) (Sh.cons Sh.bool (Sh.cons (Sh.int .i64) (Sh.cons (Sh.int .i64) (Sh.cons Sh.bool (Sh.cons (Sh.int .i64) (Sh.cons Sh.bool (Sh.cons (Sh.int .i64) (Sh.cons (Sh.int .i64) (Sh.cons (Sh.int .u32) (Sh.cons (Sh.int .i64) (Sh.cons (Sh.int .i64) (Sh.cons Sh.bool (Sh.cons Sh.bool (Sh.cons (Sh.int .i64) (Sh.cons (Sh.int .i64) (Sh.cons (Sh.int .i64) (Sh.cons (Sh.int .i64) (Sh.cons (Sh.int .i64) (Sh.cons Sh.bool (Sh.fst (Sh.cons Sh.bool Sh.nil))))))))))))))))))))))))))))))))))))))))))) Sh.nil)) Sh.hnil))
def w5_0 : Wk G Bool := (Wk.one [.keep] (Pk.fst (pk (Sh.fst (Sh.cons Sh.bool Sh.nil)) Sh.hnil)))
def F5_0 (v : Int × Int × Int × Int × Int × Int × Int × Int × Int × Int × Int × Int × Int × Int × Int × Bool × Int × Int × Bool × Int × Int × Bool × Int × Int × Bool × Int × Bool × Int × Int × Int × Int × Int × Bool × Bool × Int × Int × Int × Int × Int × Bool × Bool) : Option Bool :=
  (F15_0 (v, false)).bind fun r1467 =>
  (F16_0 (v, false)).bind fun r1468 =>
  let x1469 : Bool := ((r1467.1.1 == r1468.1.1) && ((r1467.1.2.1 == r1468.1.2.1) && ((r1467.1.2.2.1 == r1468.1.2.2.1) && ((r1467.1.2.2.2.1 == r1468.1.2.2.2.1) && ((r1467.1.2.2.2.2.1 == r1468.1.2.2.2.2.1) && ((r1467.1.2.2.2.2.2.1 == r1468.1.2.2.2.2.2.1) && ((r1467.1.2.2.2.2.2.2.1 == r1468.1.2.2.2.2.2.2.1) && ((r1467.1.2.2.2.2.2.2.2 == r1468.1.2.2.2.2.2.2.2) && true))))))))
  bif x1469 then
    bif (r1467.2 == r1468.2) then
      (F17_0 ()).bind fun r1470 =>
      some (r1470)
    else
      some (false)
  else
    some (false)

noncomputable def k5_0 : List (Known Try.prog E) := [Known.of envOk [5, 9] [(.ptr 0 0 52 [.keep]), (.agg [.keep, .keep, .keep, .keep, .keep, .keep, .keep, .keep, .keep, .keep, .keep, .keep, .keep, .keep, .keep, .keep, .keep, .keep, .keep, .keep, .keep, .keep, .keep, .keep, .keep, .keep, .keep, .keep, .keep, .keep, .keep, .keep, .keep, .keep, .keep, .keep, .keep, .keep, .keep, .keep, .keep])] v15_0 F15_0 w15_0 ok15_0, Known.of envOk [5, 9] [(.ptr 0 0 54 [.keep]), (.agg [.keep, .keep, .keep, .keep, .keep, .keep, .keep, .keep, .keep, .keep, .keep, .keep, .keep, .keep, .keep, .keep, .keep, .keep, .keep, .keep, .keep, .keep, .keep, .keep, .keep, .keep, .keep, .keep, .keep, .keep, .keep, .keep, .keep, .keep, .keep, .keep, .keep, .keep, .keep, .keep, .keep])] v16_0 F16_0 w16_0 ok16_0, Known.of envOk [] [] v17_0 F17_0 w17_0 ok17_0]
noncomputable def L5_0 (n id : Nat) (st : St G) : Option Bool := none
set_option maxRecDepth 100000 in
theorem e5_0 (n : Nat) (v : Int × Int × Int × Int × Int × Int × Int × Int × Int × Int × Int × Int × Int × Int × Int × Bool × Int × Int × Bool × Int × Int × Bool × Int × Int × Bool × Int × Bool × Int × Int × Int × Int × Int × Bool × Bool × Int × Int × Int × Int × Int × Bool × Bool) : ev Try.prog E (oracle k5_0) Try.f5.ntmps (fun x => mem x []) (L5_0 n) (finA Try.prog E Try.f5.results.toList [] w5_0.alts) 4000 [.code (Try.f5.body.getD .skip)] (argSt (v5_0.enc v)) = F5_0 v := by kernel_rfl
theorem ok5_0 : FnOk Try.prog E 5 v5_0.enc F5_0 w5_0.enc :=
  fn_known (fn := Try.f5) (c := (Try.f5.body.getD .skip)) Try.func5 (by kernel_rfl) rfl envOk (oracle_ok k5_0) mixed v5_0 F5_0 w5_0 [] [] 4000 L5_0 (by kernel_rfl)
    (fun _ h => nomatch h) (fun v _ h => ⟨0, (e5_0 _ v).trans h⟩) (fun _ => by kernel_rfl) (fun _ => by kernel_rfl) (fun _ _ => by kernel_rfl)
def Dom5_0 (v : Int × Int × Int × Int × Int × Int × Int × Int × Int × Int × Int × Int × Int × Int × Int × Bool × Int × Int × Bool × Int × Int × Bool × Int × Int × Bool × Int × Bool × Int × Int × Int × Int × Int × Bool × Bool × Int × Int × Int × Int × Int × Bool × Bool) : Prop := ((Lit.int .i64 v.1).wf = true ∧ (Lit.int .i64 v.2.1).wf = true ∧ (Lit.int .i64 v.2.2.1).wf = true ∧ (Lit.int .i64 v.2.2.2.1).wf = true ∧ (Lit.int .i64 v.2.2.2.2.1).wf = true ∧ (Lit.int .i64 v.2.2.2.2.2.1).wf = true ∧ (Lit.int .i64 v.2.2.2.2.2.2.1).wf = true ∧ (Lit.int .i64 v.2.2.2.2.2.2.2.1).wf = true ∧ (Lit.int .i64 v.2.2.2.2.2.2.2.2.1).wf = true ∧ (Lit.int .i64 v.2.2.2.2.2.2.2.2.2.1).wf = true ∧ (Lit.int .i64 v.2.2.2.2.2.2.2.2.2.2.1).wf = true ∧ (Lit.int .i64 v.2.2.2.2.2.2.2.2.2.2.2.1).wf = true ∧ (Lit.int .i64 v.2.2.2.2.2.2.2.2.2.2.2.2.1).wf = true ∧ (Lit.int .i64 v.2.2.2.2.2.2.2.2.2.2.2.2.2.1).wf = true ∧ (Lit.int .i64 v.2.2.2.2.2.2.2.2.2.2.2.2.2.2.1).wf = true ∧ (Lit.int .i64 v.2.2.2.2.2.2.2.2.2.2.2.2.2.2.2.2.1).wf = true ∧ (Lit.int .i64 v.2.2.2.2.2.2.2.2.2.2.2.2.2.2.2.2.2.1).wf = true ∧ (Lit.int .i64 v.2.2.2.2.2.2.2.2.2.2.2.2.2.2.2.2.2.2.2.1).wf = true ∧ (Lit.int .i64 v.2.2.2.2.2.2.2.2.2.2.2.2.2.2.2.2.2.2.2.2.1).wf = true ∧ (Lit.int .i64 v.2.2.2.2.2.2.2.2.2.2.2.2.2.2.2.2.2.2.2.2.2.2.1).wf = true ∧ (Lit.int .i64 v.2.2.2.2.2.2.2.2.2.2.2.2.2.2.2.2.2.2.2.2.2.2.2.1).wf = true ∧ (Lit.int .i64 v.2.2.2.2.2.2.2.2.2.2.2.2.2.2.2.2.2.2.2.2.2.2.2.2.2.1).wf = true ∧ (Lit.int .i64 v.2.2.2.2.2.2.2.2.2.2.2.2.2.2.2.2.2.2.2.2.2.2.2.2.2.2.2.1).wf = true ∧ (Lit.int .i64 v.2.2.2.2.2.2.2.2.2.2.2.2.2.2.2.2.2.2.2.2.2.2.2.2.2.2.2.2.1).wf = true ∧ (Lit.int .u32 v.2.2.2.2.2.2.2.2.2.2.2.2.2.2.2.2.2.2.2.2.2.2.2.2.2.2.2.2.2.1).wf = true ∧ (Lit.int .i64 v.2.2.2.2.2.2.2.2.2.2.2.2.2.2.2.2.2.2.2.2.2.2.2.2.2.2.2.2.2.2.1).wf = true ∧ (Lit.int .i64 v.2.2.2.2.2.2.2.2.2.2.2.2.2.2.2.2.2.2.2.2.2.2.2.2.2.2.2.2.2.2.2.1).wf = true ∧ (Lit.int .i64 v.2.2.2.2.2.2.2.2.2.2.2.2.2.2.2.2.2.2.2.2.2.2.2.2.2.2.2.2.2.2.2.2.2.2.1).wf = true ∧ (Lit.int .i64 v.2.2.2.2.2.2.2.2.2.2.2.2.2.2.2.2.2.2.2.2.2.2.2.2.2.2.2.2.2.2.2.2.2.2.2.1).wf = true ∧ (Lit.int .i64 v.2.2.2.2.2.2.2.2.2.2.2.2.2.2.2.2.2.2.2.2.2.2.2.2.2.2.2.2.2.2.2.2.2.2.2.2.1).wf = true ∧ (Lit.int .i64 v.2.2.2.2.2.2.2.2.2.2.2.2.2.2.2.2.2.2.2.2.2.2.2.2.2.2.2.2.2.2.2.2.2.2.2.2.2.1).wf = true ∧ (Lit.int .i64 v.2.2.2.2.2.2.2.2.2.2.2.2.2.2.2.2.2.2.2.2.2.2.2.2.2.2.2.2.2.2.2.2.2.2.2.2.2.2.1).wf = true)
end Go.Proofs.Ytfhhpfhmplgndaa.Ev
