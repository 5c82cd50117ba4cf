import Derived.Test.YtneiaaalbpjgiaaGreatXEnv
set_option linter.unusedVariables false
namespace Go.Proofs.YtneiaaalbpjgiaaGreat.Ev
open Go Go.RowKit
def sc0 : ByteArray := ⟨#[0, 1, 2, 2, 3, 3, 3, 3, 4, 4, 4, 4, 4, 4, 4, 4, 5, 5, 5, 5, 5, 5, 5, 5, 5, 5, 5, 5, 5, 5, 5, 5, 6, 6, 6, 6, 6, 6, 6, 6, 6, 6, 6, 6, 6, 6, 6, 6, 6, 6, 6, 6, 6, 6, 6, 6, 6, 6, 6, 6, 6, 6, 6, 6, 7, 7, 7, 7, 7, 7, 7, 7, 7, 7, 7, 7, 7, 7, 7, 7, 7, 7, 7, 7, 7, 7, 7, 7, 7, 7, 7, 7, 7, 7, 7, 7, 7, 7, 7, 7, 7, 7, 7, 7, 7, 7, 7, 7, 7, 7, 7, 7, 7, 7, 7, 7, 7, 7, 7, 7, 7, 7, 7, 7, 7, 7, 7, 7, 8, 8, 8, 8, 8, 8, 8, 8, 8, 8, 8, 8, 8, 8, 8, 8, 8, 8, 8, 8, 8, 8, 8, 8, 8, 8, 8, 8, 8, 8, 8, 8, 8, 8, 8, 8, 8, 8, 8, 8, 8, 8, 8, 8, 8, 8, 8, 8, 8, 8, 8, 8, 8, 8, 8, 8, 8, 8, 8, 8, 8, 8, 8, 8, 8, 8, 8, 8, 8, 8, 8, 8, 8, 8, 8, 8, 8, 8, 8, 8, 8, 8, 8, 8, 8, 8, 8, 8, 8, 8, 8, 8, 8, 8, 8, 8, 8, 8, 8, 8, 8, 8, 8, 8, 8, 8, 8, 8, 8, 8, 8, 8, 8, 8, 8, 8, 8, 8, 8, 8, 8, 8, 8, 8, 8, 8, 8, 8]⟩
/- chicane/chicanelaw12.Few -/
abbrev A9_0 : Type := Int × Int × Int × Int × Int × Int × List Int × List Int × (List (Int × Int × Bool)) × (List (Int × Int)) × (List (List (Int × Int))) × (List (Int × Int × Int × Int × Bool)) × Int × Int × Int × Int
abbrev R9_0 : Type := Bool
def v9_0 : Pk G (Int × Int × Int × Int × Int × Int × List Int × List Int × (List (Int × Int × Bool)) × (List (Int × Int)) × (List (List (Int × Int))) × (List (Int × Int × Int × Int × Bool)) × Int × Int × Int × Int) := (Pk.fst (pk (Sh.fst (Sh.cons (Sh.agg (Sh.cons (Sh.int .i64) (Sh.cons (Sh.int .i64) (Sh.cons (Sh.int .i64) (Sh.cons (Sh.int .i64) (Sh.cons (Sh.int .i64) (Sh.cons (Sh.int .i64) (Sh.cons (Sh.ros 22) (Sh.cons (Sh.ros 3) (Sh.cons (Sh.ros 64) (Sh.cons (Sh.ros 24) (Sh.cons (Sh.ros 28) (Sh.cons (Sh.ros 187) (Sh.cons (Sh.int .i64) (Sh.cons (Sh.int .i64) (Sh.cons (Sh.int .u32) (Sh.fst (Sh.cons (Sh.int .i64) Sh.nil)))))))))))))))))) Sh.nil)) Sh.hnil))
def w9_0 : Wk G Bool := (Wk.one [.keep] (Pk.fst (pk (Sh.fst (Sh.cons Sh.bool Sh.nil)) Sh.hnil)))
def F9_0 (v : Int × Int × Int × Int × Int × Int × List Int × List Int × (List (Int × Int × Bool)) × (List (Int × Int)) × (List (List (Int × Int))) × (List (Int × Int × Int × Int × Bool)) × Int × Int × Int × Int) : Option Bool :=
  bif (decide (((v.2.2.2.2.2.2.1).length : Int) ≤ (1200 : Int))) then
    bif (decide (((v.2.2.2.2.2.2.2.1).length : Int) ≤ (1000 : Int))) then
      some (decide (((v.2.2.2.2.2.2.2.2.1).length : Int) ≤ (20 : Int)))
    else
      some (false)
  else
    some (false)

noncomputable def k9_0 : List (Known Tryz.prog E) := []
noncomputable def L9_0 (n id : Nat) (st : St G) : Option Bool := none
set_option maxRecDepth 100000 in
theorem e9_0 (n : Nat) (v : Int × Int × Int × Int × Int × Int × List Int × List Int × (List (Int × Int × Bool)) × (List (Int × Int)) × (List (List (Int × Int))) × (List (Int × Int × Int × Int × Bool)) × Int × Int × Int × Int) : ev Tryz.prog E (oracle k9_0) Tryz.f9.ntmps (fun x => mem x []) (L9_0 n) (finF Tryz.prog E Tryz.f9.results.toList [[]] w9_0.alts) 4000 [.code (Tryz.f9.body.getD .skip)] (argSt (v9_0.enc v)) = F9_0 v := by kernel_rfl
theorem ok9_0 : FnOk Tryz.prog E 9 v9_0.enc F9_0 w9_0.enc :=
  fn_known (fn := Tryz.f9) (c := (Tryz.f9.body.getD .skip)) Tryz.func9 (by kernel_rfl) rfl envOk (oracle_ok k9_0) mixed v9_0 F9_0 w9_0 [] [[]] (by kernel_rfl) [] 4000 L9_0 (by kernel_rfl)
    (fun _ h => nomatch h) (fun v _ h => ⟨0, (e9_0 _ v).trans h⟩) (fun _ => by kernel_rfl) (fun _ => by kernel_rfl) (fun _ _ => by kernel_rfl)
/- chicane/chicaneref12.counts -/
abbrev A30_0 : Type := Int × Int × Int × Int × Int × Int × List Int × List Int × (List (Int × Int × Bool)) × (List (Int × Int)) × (List (List (Int × Int))) × (List (Int × Int × Int × Int × Bool)) × Int × Int × Int × Int
abbrev R30_0 : Type := Bool
def v30_0 : Pk G (Int × Int × Int × Int × Int × Int × List Int × List Int × (List (Int × Int × Bool)) × (List (Int × Int)) × (List (List (Int × Int))) × (List (Int × Int × Int × Int × Bool)) × Int × Int × Int × Int) := (Pk.fst (pk (Sh.fst (Sh.cons (Sh.agg (Sh.cons (Sh.int .i64) (Sh.cons (Sh.int .i64) (Sh.cons (Sh.int .i64) (Sh.cons (Sh.int .i64) (Sh.cons (Sh.int .i64) (Sh.cons (Sh.int .i64) (Sh.cons (Sh.ros 22) (Sh.cons (Sh.ros 3) (Sh.cons (Sh.ros 64) (Sh.cons (Sh.ros 24) (Sh.cons (Sh.ros 28) (Sh.cons (Sh.ros 187) (Sh.cons (Sh.int .i64) (Sh.cons (Sh.int .i64) (Sh.cons (Sh.int .u32) (Sh.fst (Sh.cons (Sh.int .i64) Sh.nil)))))))))))))))))) Sh.nil)) Sh.hnil))
def w30_0 : Wk G Bool := (Wk.one [.keep] (Pk.fst (pk (Sh.fst (Sh.cons Sh.bool Sh.nil)) Sh.hnil)))
def F30_0 (v : Int × Int × Int × Int × Int × Int × List Int × List Int × (List (Int × Int × Bool)) × (List (Int × Int)) × (List (List (Int × Int))) × (List (Int × Int × Int × Int × Bool)) × Int × Int × Int × Int) : Option Bool :=
  bif (decide (v.2.2.1 < (1 : Int))) then
    some (false)
  else
    bif (decide (v.2.2.1 > (64 : Int))) then
      some (false)
    else
      bif (decide (v.2.2.2.1 < (1 : Int))) then
        some (false)
      else
        bif (decide (v.2.2.2.1 > (64 : Int))) then
          some (false)
        else
          let x10 : Int := (IntKind.wrap .i64 (v.2.2.1 + (1 : Int)))
          let x11 : Int := (IntKind.wrap .i64 (v.2.2.2.1 + (1 : Int)))
          let x12 : Int := (IntKind.wrap .i64 (x10 * x11))
          bif (((v.2.2.2.2.2.2.1).length : Int) == x12) then
            let x13 : Int := (IntKind.wrap .i64 (v.2.2.1 * v.2.2.2.1))
            bif (((v.2.2.2.2.2.2.2.1).length : Int) == x13) then
              bif (decide (((v.2.2.2.2.2.2.2.2.1).length : Int) ≥ (1 : Int))) then
                some (decide (((v.2.2.2.2.2.2.2.2.1).length : Int) ≤ (8 : Int)))
              else
                some (false)
            else
              some (false)
          else
            some (false)

noncomputable def k30_0 : List (Known Tryz.prog E) := []
noncomputable def L30_0 (n id : Nat) (st : St G) : Option Bool := none
set_option maxRecDepth 100000 in
theorem e30_0 (n : Nat) (v : Int × Int × Int × Int × Int × Int × List Int × List Int × (List (Int × Int × Bool)) × (List (Int × Int)) × (List (List (Int × Int))) × (List (Int × Int × Int × Int × Bool)) × Int × Int × Int × Int) : ev Tryz.prog E (oracle k30_0) Tryz.f30.ntmps (fun x => mem x []) (L30_0 n) (finF Tryz.prog E Tryz.f30.results.toList [[]] w30_0.alts) 4000 [.code (Tryz.f30.body.getD .skip)] (argSt (v30_0.enc v)) = F30_0 v := by kernel_rfl
theorem ok30_0 : FnOk Tryz.prog E 30 v30_0.enc F30_0 w30_0.enc :=
  fn_known (fn := Tryz.f30) (c := (Tryz.f30.body.getD .skip)) Tryz.func30 (by kernel_rfl) rfl envOk (oracle_ok k30_0) mixed v30_0 F30_0 w30_0 [] [[]] (by kernel_rfl) [] 4000 L30_0 (by kernel_rfl)
    (fun _ h => nomatch h) (fun v _ h => ⟨0, (e30_0 _ v).trans h⟩) (fun _ => by kernel_rfl) (fun _ => by kernel_rfl) (fun _ _ => by kernel_rfl)
/- chicane/chicaneref12.in -/
abbrev A31_0 : Type := Int × Int × Int
abbrev R31_0 : Type := Bool
def v31_0 : Pk G (Int × Int × Int) := (Pk.fst (pk (Sh.cons (Sh.int .i64) (Sh.cons (Sh.int .i64) (Sh.fst (Sh.cons (Sh.int .i64) Sh.nil)))) Sh.hnil))
def w31_0 : Wk G Bool := (Wk.one [.keep] (Pk.fst (pk (Sh.fst (Sh.cons Sh.bool Sh.nil)) Sh.hnil)))
def F31_0 (v : Int × Int × Int) : Option Bool :=
  bif (decide (v.1 ≥ v.2.1)) then
    some (decide (v.1 ≤ v.2.2))
  else
    some (false)

noncomputable def k31_0 : List (Known Tryz.prog E) := []
noncomputable def L31_0 (n id : Nat) (st : St G) : Option Bool := none
set_option maxRecDepth 100000 in
theorem e31_0 (n : Nat) (v : Int × Int × Int) : ev Tryz.prog E (oracle k31_0) Tryz.f31.ntmps (fun x => mem x []) (L31_0 n) (finF Tryz.prog E Tryz.f31.results.toList [[]] w31_0.alts) 4000 [.code (Tryz.f31.body.getD .skip)] (argSt (v31_0.enc v)) = F31_0 v := by kernel_rfl
theorem ok31_0 : FnOk Tryz.prog E 31 v31_0.enc F31_0 w31_0.enc :=
  fn_known (fn := Tryz.f31) (c := (Tryz.f31.body.getD .skip)) Tryz.func31 (by kernel_rfl) rfl envOk (oracle_ok k31_0) mixed v31_0 F31_0 w31_0 [] [[]] (by kernel_rfl) [] 4000 L31_0 (by kernel_rfl)
    (fun _ h => nomatch h) (fun v _ h => ⟨0, (e31_0 _ v).trans h⟩) (fun _ => by kernel_rfl) (fun _ => by kernel_rfl) (fun _ _ => by kernel_rfl)
/- chicane/chicaneref12.heights -/
abbrev A32_0 : Type := Int × Int × Int × Int × Int × Int × List Int × List Int × (List (Int × Int × Bool)) × (List (Int × Int)) × (List (List (Int × Int))) × (List (Int × Int × Int × Int × Bool)) × Int × Int × Int × Int
abbrev R32_0 : Type := Bool
def v32_0 : Pk G (Int × Int × Int × Int × Int × Int × List Int × List Int × (List (Int × Int × Bool)) × (List (Int × Int)) × (List (List (Int × Int))) × (List (Int × Int × Int × Int × Bool)) × Int × Int × Int × Int) := (Pk.fst (pk (Sh.fst (Sh.cons (Sh.agg (Sh.cons (Sh.int .i64) (Sh.cons (Sh.int .i64) (Sh.cons (Sh.int .i64) (Sh.cons (Sh.int .i64) (Sh.cons (Sh.int .i64) (Sh.cons (Sh.int .i64) (Sh.cons (Sh.ros 22) (Sh.cons (Sh.ros 3) (Sh.cons (Sh.ros 64) (Sh.cons (Sh.ros 24) (Sh.cons (Sh.ros 28) (Sh.cons (Sh.ros 187) (Sh.cons (Sh.int .i64) (Sh.cons (Sh.int .i64) (Sh.cons (Sh.int .u32) (Sh.fst (Sh.cons (Sh.int .i64) Sh.nil)))))))))))))))))) Sh.nil)) Sh.hnil))
def w32_0 : Wk G Bool := (Wk.one [.keep] (Pk.fst (pk (Sh.fst (Sh.cons Sh.bool Sh.nil)) Sh.hnil)))
def c32_0_2 : Pk G (Int × Int × Int × Int × Int × Int × Int × List Int × List Int × (List (Int × Int × Bool)) × (List (Int × Int)) × (List (List (Int × Int))) × (List (Int × Int × Int × Int × Bool)) × Int × Int × Int × Int) := (pk (Sh.snd (Sh.cons (Sh.ptr 0 0) (Sh.fst (Sh.cons (Sh.int .i64) Sh.nil)))) (Sh.fst (Sh.hfix 0 34 (Sh.cons (Sh.int .i64) (Sh.cons (Sh.int .i64) (Sh.cons (Sh.int .i64) (Sh.cons (Sh.int .i64) (Sh.cons (Sh.int .i64) (Sh.cons (Sh.int .i64) (Sh.cons (Sh.ros 22) (Sh.cons (Sh.ros 3) (Sh.cons (Sh.ros 64) (Sh.cons (Sh.ros 24) (Sh.cons (Sh.ros 28) (Sh.cons (Sh.ros 187) (Sh.cons (Sh.int .i64) (Sh.cons (Sh.int .i64) (Sh.cons (Sh.int .u32) (Sh.fst (Sh.cons (Sh.int .i64) Sh.nil))))))))))))))))) Sh.hnil)))
def c32_0_7 : Pk G (Int × Int × Int × Int × Int × Int × Int × List Int × List Int × (List (Int × Int × Bool)) × (List (Int × Int)) × (List (List (Int × Int))) × (List (Int × Int × Int × Int × Bool)) × Int × Int × Int × Int) := (pk (Sh.snd (Sh.cons (Sh.ptr 0 0) (Sh.fst (Sh.cons (Sh.int .i64) Sh.nil)))) (Sh.fst (Sh.hfix 0 34 (Sh.cons (Sh.int .i64) (Sh.cons (Sh.int .i64) (Sh.cons (Sh.int .i64) (Sh.cons (Sh.int .i64) (Sh.cons (Sh.int .i64) (Sh.cons (Sh.int .i64) (Sh.cons (Sh.ros 22) (Sh.cons (Sh.ros 3) (Sh.cons (Sh.ros 64) (Sh.cons (Sh.ros 24) (Sh.cons (Sh.ros 28) (Sh.cons (Sh.ros 187) (Sh.cons (Sh.int .i64) (Sh.cons (Sh.int .i64) (Sh.cons (Sh.int .u32) (Sh.fst (Sh.cons (Sh.int .i64) Sh.nil))))))))))))))))) Sh.hnil)))
def B32_0_2 (K : ((Int × Int × Int × Int × Int × Int × Int × List Int × List Int × (List (Int × Int × Bool)) × (List (Int × Int)) × (List (List (Int × Int))) × (List (Int × Int × Int × Int × Bool)) × Int × Int × Int × Int) → Option Bool) × ((Int × Int × Int × Int × Int × Int × Int × List Int × List Int × (List (Int × Int × Bool)) × (List (Int × Int)) × (List (List (Int × Int))) × (List (Int × Int × Int × Int × Bool)) × Int × Int × Int × Int) → Option Bool)) (v : Int × Int × Int × Int × Int × Int × Int × List Int × List Int × (List (Int × Int × Bool)) × (List (Int × Int)) × (List (List (Int × Int))) × (List (Int × Int × Int × Int × Bool)) × Int × Int × Int × Int) : Option Bool :=
  bif (decide (v.1 < ((v.2.2.2.2.2.2.2.1).length : Int))) then
    (rdx v.2.2.2.2.2.2.2.1 v.1).bind fun (x88 : Int) =>
    (F31_0 (x88, ((-2199023255552 : Int), (2199023255552 : Int)))).bind fun r89 =>
    bif (!r89) then
      some (false)
    else
      let x90 : Int := (IntKind.wrap .i64 (v.1 + (1 : Int)))
      K.1 (x90, v.2)
  else
    K.2 ((0 : Int), v.2)

def B32_0_7 (K : ((Int × Int × Int × Int × Int × Int × Int × List Int × List Int × (List (Int × Int × Bool)) × (List (Int × Int)) × (List (List (Int × Int))) × (List (Int × Int × Int × Int × Bool)) × Int × Int × Int × Int) → Option Bool) × ((Int × Int × Int × Int × Int × Int × Int × List Int × List Int × (List (Int × Int × Bool)) × (List (Int × Int)) × (List (List (Int × Int))) × (List (Int × Int × Int × Int × Bool)) × Int × Int × Int × Int) → Option Bool)) (v : Int × Int × Int × Int × Int × Int × Int × List Int × List Int × (List (Int × Int × Bool)) × (List (Int × Int)) × (List (List (Int × Int))) × (List (Int × Int × Int × Int × Bool)) × Int × Int × Int × Int) : Option Bool :=
  bif (decide (v.1 < ((v.2.2.2.2.2.2.2.1).length : Int))) then
    let x91 : Int := (IntKind.wrap .i64 (v.2.2.2.1 + (1 : Int)))
    (chk (x91 != 0)).bind fun _ =>
    let x92 : Int := (Int.tmod v.1 x91)
    bif (decide (x92 < v.2.2.2.1)) then
      let x93 : Int := (IntKind.wrap .i64 (v.1 + (1 : Int)))
      (rdx v.2.2.2.2.2.2.2.1 x93).bind fun (x94 : Int) =>
      (rdx v.2.2.2.2.2.2.2.1 v.1).bind fun (x95 : Int) =>
      let x96 : Int := (IntKind.wrap .i64 (x94 - x95))
      let x97 : Int := (IntKind.wrap .i64 (0 - v.2.2.1))
      (F31_0 (x96, (x97, v.2.2.1))).bind fun r98 =>
      bif (!r98) then
        some (false)
      else
        let x99 : Int := (IntKind.wrap .i64 (v.2.2.2.1 + (1 : Int)))
        (chk (x99 != 0)).bind fun _ =>
        let x100 : Int := (IntKind.wrap .i64 (Int.tdiv v.1 x99))
        bif (decide (x100 < v.2.2.2.2.1)) then
          let x101 : Int := (IntKind.wrap .i64 (v.1 + v.2.2.2.1))
          let x102 : Int := (IntKind.wrap .i64 (x101 + (1 : Int)))
          (rdx v.2.2.2.2.2.2.2.1 x102).bind fun (x103 : Int) =>
          (rdx v.2.2.2.2.2.2.2.1 v.1).bind fun (x104 : Int) =>
          let x105 : Int := (IntKind.wrap .i64 (x103 - x104))
          let x106 : Int := (IntKind.wrap .i64 (0 - v.2.2.1))
          (F31_0 (x105, (x106, v.2.2.1))).bind fun r107 =>
          bif (!r107) then
            some (false)
          else
            let x108 : Int := (IntKind.wrap .i64 (v.1 + (1 : Int)))
            K.2 (x108, v.2)
        else
          let x109 : Int := (IntKind.wrap .i64 (v.1 + (1 : Int)))
          K.2 (x109, v.2)
    else
      let x110 : Int := (IntKind.wrap .i64 (v.2.2.2.1 + (1 : Int)))
      (chk (x110 != 0)).bind fun _ =>
      let x111 : Int := (IntKind.wrap .i64 (Int.tdiv v.1 x110))
      bif (decide (x111 < v.2.2.2.2.1)) then
        let x112 : Int := (IntKind.wrap .i64 (v.1 + v.2.2.2.1))
        let x113 : Int := (IntKind.wrap .i64 (x112 + (1 : Int)))
        (rdx v.2.2.2.2.2.2.2.1 x113).bind fun (x114 : Int) =>
        (rdx v.2.2.2.2.2.2.2.1 v.1).bind fun (x115 : Int) =>
        let x116 : Int := (IntKind.wrap .i64 (x114 - x115))
        let x117 : Int := (IntKind.wrap .i64 (0 - v.2.2.1))
        (F31_0 (x116, (x117, v.2.2.1))).bind fun r118 =>
        bif (!r118) then
          some (false)
        else
          let x119 : Int := (IntKind.wrap .i64 (v.1 + (1 : Int)))
          K.2 (x119, v.2)
      else
        let x120 : Int := (IntKind.wrap .i64 (v.1 + (1 : Int)))
        K.2 (x120, v.2)
  else
    some (true)

def E32_0 (K : ((Int × Int × Int × Int × Int × Int × Int × List Int × List Int × (List (Int × Int × Bool)) × (List (Int × Int)) × (List (List (Int × Int))) × (List (Int × Int × Int × Int × Bool)) × Int × Int × Int × Int) → Option Bool) × ((Int × Int × Int × Int × Int × Int × Int × List Int × List Int × (List (Int × Int × Bool)) × (List (Int × Int)) × (List (List (Int × Int))) × (List (Int × Int × Int × Int × Bool)) × Int × Int × Int × Int) → Option Bool)) (v : Int × Int × Int × Int × Int × Int × List Int × List Int × (List (Int × Int × Bool)) × (List (Int × Int)) × (List (List (Int × Int))) × (List (Int × Int × Int × Int × Bool)) × Int × Int × Int × Int) : Option Bool :=
  K.1 ((0 : Int), v)

def K32_0 : Nat → ((Int × Int × Int × Int × Int × Int × Int × List Int × List Int × (List (Int × Int × Bool)) × (List (Int × Int)) × (List (List (Int × Int))) × (List (Int × Int × Int × Int × Bool)) × Int × Int × Int × Int) → Option Bool) × ((Int × Int × Int × Int × Int × Int × Int × List Int × List Int × (List (Int × Int × Bool)) × (List (Int × Int)) × (List (List (Int × Int))) × (List (Int × Int × Int × Int × Bool)) × Int × Int × Int × Int) → Option Bool)
  | 0 => (fun _ => none, fun _ => none)
  | n + 1 => (B32_0_2 (K32_0 n), B32_0_7 (K32_0 n))
def fuel32_0 (v : Int × Int × Int × Int × Int × Int × List Int × List Int × (List (Int × Int × Bool)) × (List (Int × Int)) × (List (List (Int × Int))) × (List (Int × Int × Int × Int × Bool)) × Int × Int × Int × Int) : Nat := 3000
def F32_0 (v : Int × Int × Int × Int × Int × Int × List Int × List Int × (List (Int × Int × Bool)) × (List (Int × Int)) × (List (List (Int × Int))) × (List (Int × Int × Int × Int × Bool)) × Int × Int × Int × Int) : Option Bool := E32_0 (K32_0 (fuel32_0 v)) v
noncomputable def k32_0 : List (Known Tryz.prog E) := [Known.of envOk [1, 1, 1] [.keep, .keep, .keep] v31_0 F31_0 w31_0 ok31_0]
def s32_0_7 : List (Nat × Pat) := [(1, (.ptr 0 0 34 [.keep, .keep, .keep, .keep, .keep, .keep, (.ros 22), (.ros 3), (.ros 64), (.ros 24), (.ros 28), (.ros 187), .keep, .keep, .keep, .keep])), (4, .keep)]
def s32_0_2 : List (Nat × Pat) := [(1, (.ptr 0 0 34 [.keep, .keep, .keep, .keep, .keep, .keep, (.ros 22), (.ros 3), (.ros 64), (.ros 24), (.ros 28), (.ros 187), .keep, .keep, .keep, .keep])), (3, .keep)]
noncomputable def L32_0 (n id : Nat) (st : St G) : Option Bool := match Nat.beq id 2 with | true => cutK Tryz.prog s32_0_2 [] c32_0_2.dec (K32_0 n).1 st | false => match Nat.beq id 7 with | true => cutK Tryz.prog s32_0_7 [] c32_0_7.dec (K32_0 n).2 st | false => none
set_option maxRecDepth 100000 in
theorem e32_0 (n : Nat) (v : Int × Int × Int × Int × Int × Int × List Int × List Int × (List (Int × Int × Bool)) × (List (Int × Int)) × (List (List (Int × Int))) × (List (Int × Int × Int × Int × Bool)) × Int × Int × Int × Int) : ev Tryz.prog E (oracle k32_0) Tryz.f32.ntmps (fun x => mem x [2, 7]) (L32_0 n) (finF Tryz.prog E Tryz.f32.results.toList [[]] w32_0.alts) 4000 [.code (Tryz.f32.body.getD .skip)] (argSt (v32_0.enc v)) = E32_0 (K32_0 n) v := by kernel_rfl
set_option maxRecDepth 100000 in
theorem b32_0_2 (n : Nat) (v : Int × Int × Int × Int × Int × Int × Int × List Int × List Int × (List (Int × Int × Bool)) × (List (Int × Int)) × (List (List (Int × Int))) × (List (Int × Int × Int × Int × Bool)) × Int × Int × Int × Int) : evCut Tryz.prog E (oracle k32_0) false 32 Tryz.f32.ntmps (fun x => mem x [2, 7]) (L32_0 n) (finF Tryz.prog E Tryz.f32.results.toList [[]] w32_0.alts) 4000 (todoAt (Tryz.f32.body.getD .skip) 2) (cutSt s32_0_2 (c32_0_2.enc v)) = B32_0_2 (K32_0 n) v := by kernel_rfl
set_option maxRecDepth 100000 in
theorem b32_0_7 (n : Nat) (v : Int × Int × Int × Int × Int × Int × Int × List Int × List Int × (List (Int × Int × Bool)) × (List (Int × Int)) × (List (List (Int × Int))) × (List (Int × Int × Int × Int × Bool)) × Int × Int × Int × Int) : evCut Tryz.prog E (oracle k32_0) false 32 Tryz.f32.ntmps (fun x => mem x [2, 7]) (L32_0 n) (finF Tryz.prog E Tryz.f32.results.toList [[]] w32_0.alts) 4000 (todoAt (Tryz.f32.body.getD .skip) 7) (cutSt s32_0_7 (c32_0_7.enc v)) = B32_0_7 (K32_0 n) v := by kernel_rfl
theorem ok32_0 : FnOk Tryz.prog E 32 v32_0.enc F32_0 w32_0.enc :=
  fn_known (fn := Tryz.f32) (c := (Tryz.f32.body.getD .skip)) Tryz.func32 (by kernel_rfl) rfl envOk (oracle_ok k32_0) mixed v32_0 F32_0 w32_0 [] [[]] (by kernel_rfl) [2, 7] 4000 L32_0 (by kernel_rfl)
    (List.forall_mem_cons.2 ⟨⟨_, [], s32_0_2, c32_0_2.dec, c32_0_2.enc, fun n => (K32_0 n).1, c32_0_2.ok, fun _ _ => rfl, fun _ => rfl, by kernel_rfl, fun n v _ h => (b32_0_2 n v).trans h⟩, List.forall_mem_cons.2 ⟨⟨_, [], s32_0_7, c32_0_7.dec, c32_0_7.enc, fun n => (K32_0 n).2, c32_0_7.ok, fun _ _ => rfl, fun _ => rfl, by kernel_rfl, fun n v _ h => (b32_0_7 n v).trans h⟩, fun _ h => (nomatch h)⟩⟩) (fun v _ h => ⟨fuel32_0 v, (e32_0 _ v).trans h⟩) (fun _ => by kernel_rfl) (fun _ => by kernel_rfl) (fun _ _ => by kernel_rfl)
/- chicane/chicaneref12.Right -/
abbrev A10_0 : Type := Int × Int × Int × Int × Int × Int × List Int × List Int × (List (Int × Int × Bool)) × (List (Int × Int)) × (List (List (Int × Int))) × (List (Int × Int × Int × Int × Bool)) × Int × Int × Int × Int
abbrev R10_0 : Type := Int
def v10_0 : Pk G (Int × Int × Int × Int × Int × Int × List Int × List Int × (List (Int × Int × Bool)) × (List (Int × Int)) × (List (List (Int × Int))) × (List (Int × Int × Int × Int × Bool)) × Int × Int × Int × Int) := (Pk.fst (pk (Sh.fst (Sh.cons (Sh.agg (Sh.cons (Sh.int .i64) (Sh.cons (Sh.int .i64) (Sh.cons (Sh.int .i64) (Sh.cons (Sh.int .i64) (Sh.cons (Sh.int .i64) (Sh.cons (Sh.int .i64) (Sh.cons (Sh.ros 22) (Sh.cons (Sh.ros 3) (Sh.cons (Sh.ros 64) (Sh.cons (Sh.ros 24) (Sh.cons (Sh.ros 28) (Sh.cons (Sh.ros 187) (Sh.cons (Sh.int .i64) (Sh.cons (Sh.int .i64) (Sh.cons (Sh.int .u32) (Sh.fst (Sh.cons (Sh.int .i64) Sh.nil)))))))))))))))))) Sh.nil)) Sh.hnil))
def w10_0 : Wk G Int := (Wk.one [.keep] (Pk.fst (pk (Sh.fst (Sh.cons (Sh.int .i64) Sh.nil)) Sh.hnil)))
def c10_0_6 : Pk G (Int × Int × Int × Int × Int × Int × Int × List Int × List Int × (List (Int × Int × Bool)) × (List (Int × Int)) × (List (List (Int × Int))) × (List (Int × Int × Int × Int × Bool)) × Int × Int × Int × Int) := (pk (Sh.snd (Sh.cons (Sh.ptr 0 0) (Sh.fst (Sh.cons (Sh.int .i64) Sh.nil)))) (Sh.fst (Sh.hfix 0 34 (Sh.cons (Sh.int .i64) (Sh.cons (Sh.int .i64) (Sh.cons (Sh.int .i64) (Sh.cons (Sh.int .i64) (Sh.cons (Sh.int .i64) (Sh.cons (Sh.int .i64) (Sh.cons (Sh.ros 22) (Sh.cons (Sh.ros 3) (Sh.cons (Sh.ros 64) (Sh.cons (Sh.ros 24) (Sh.cons (Sh.ros 28) (Sh.cons (Sh.ros 187) (Sh.cons (Sh.int .i64) (Sh.cons (Sh.int .i64) (Sh.cons (Sh.int .u32) (Sh.fst (Sh.cons (Sh.int .i64) Sh.nil))))))))))))))))) Sh.hnil)))
def c10_0_11 : Pk G (Int × Int × Int × Int × Int × Int × Int × List Int × List Int × (List (Int × Int × Bool)) × (List (Int × Int)) × (List (List (Int × Int))) × (List (Int × Int × Int × Int × Bool)) × Int × Int × Int × Int) := (pk (Sh.snd (Sh.cons (Sh.ptr 0 0) (Sh.fst (Sh.cons (Sh.int .i64) Sh.nil)))) (Sh.fst (Sh.hfix 0 34 (Sh.cons (Sh.int .i64) (Sh.cons (Sh.int .i64) (Sh.cons (Sh.int .i64) (Sh.cons (Sh.int .i64) (Sh.cons (Sh.int .i64) (Sh.cons (Sh.int .i64) (Sh.cons (Sh.ros 22) (Sh.cons (Sh.ros 3) (Sh.cons (Sh.ros 64) (Sh.cons (Sh.ros 24) (Sh.cons (Sh.ros 28) (Sh.cons (Sh.ros 187) (Sh.cons (Sh.int .i64) (Sh.cons (Sh.int .i64) (Sh.cons (Sh.int .u32) (Sh.fst (Sh.cons (Sh.int .i64) Sh.nil))))))))))))))))) Sh.hnil)))
def B10_0_6 (K : ((Int × Int × Int × Int × Int × Int × Int × List Int × List Int × (List (Int × Int × Bool)) × (List (Int × Int)) × (List (List (Int × Int))) × (List (Int × Int × Int × Int × Bool)) × Int × Int × Int × Int) → Option Int) × ((Int × Int × Int × Int × Int × Int × Int × List Int × List Int × (List (Int × Int × Bool)) × (List (Int × Int)) × (List (List (Int × Int))) × (List (Int × Int × Int × Int × Bool)) × Int × Int × Int × Int) → Option Int)) (v : Int × Int × Int × Int × Int × Int × Int × List Int × List Int × (List (Int × Int × Bool)) × (List (Int × Int)) × (List (List (Int × Int))) × (List (Int × Int × Int × Int × Bool)) × Int × Int × Int × Int) : Option Int :=
  bif (decide (v.1 < ((v.2.2.2.2.2.2.2.2.1).length : Int))) then
    (rdx v.2.2.2.2.2.2.2.2.1 v.1).bind fun (x152 : Int) =>
    bif (decide (x152 < (0 : Int))) then
      some (40 : Int)
    else
      (rdx v.2.2.2.2.2.2.2.2.1 v.1).bind fun (x153 : Int) =>
      bif (decide (x153 ≥ ((v.2.2.2.2.2.2.2.2.2.1).length : Int))) then
        some (40 : Int)
      else
        let x154 : Int := (IntKind.wrap .i64 (v.1 + (1 : Int)))
        K.1 (x154, v.2)
  else
    K.2 ((0 : Int), v.2)

def B10_0_11 (K : ((Int × Int × Int × Int × Int × Int × Int × List Int × List Int × (List (Int × Int × Bool)) × (List (Int × Int)) × (List (List (Int × Int))) × (List (Int × Int × Int × Int × Bool)) × Int × Int × Int × Int) → Option Int) × ((Int × Int × Int × Int × Int × Int × Int × List Int × List Int × (List (Int × Int × Bool)) × (List (Int × Int)) × (List (List (Int × Int))) × (List (Int × Int × Int × Int × Bool)) × Int × Int × Int × Int) → Option Int)) (v : Int × Int × Int × Int × Int × Int × Int × List Int × List Int × (List (Int × Int × Bool)) × (List (Int × Int)) × (List (List (Int × Int))) × (List (Int × Int × Int × Int × Bool)) × Int × Int × Int × Int) : Option Int :=
  bif (decide (v.1 < ((v.2.2.2.2.2.2.2.2.2.1).length : Int))) then
    (rdx v.2.2.2.2.2.2.2.2.2.1 v.1).bind fun (x155 : Int × Int × Bool) =>
    (F31_0 (x155.1, ((0 : Int), (8589934592 : Int)))).bind fun r156 =>
    bif (!r156) then
      some (40 : Int)
    else
      (rdx v.2.2.2.2.2.2.2.2.2.1 v.1).bind fun (x157 : Int × Int × Bool) =>
      (F31_0 (x157.2.1, ((0 : Int), (4294967296 : Int)))).bind fun r158 =>
      bif (!r158) then
        some (40 : Int)
      else
        let x159 : Int := (IntKind.wrap .i64 (v.1 + (1 : Int)))
        K.2 (x159, v.2)
  else
    some (0 : Int)

def E10_0 (K : ((Int × Int × Int × Int × Int × Int × Int × List Int × List Int × (List (Int × Int × Bool)) × (List (Int × Int)) × (List (List (Int × Int))) × (List (Int × Int × Int × Int × Bool)) × Int × Int × Int × Int) → Option Int) × ((Int × Int × Int × Int × Int × Int × Int × List Int × List Int × (List (Int × Int × Bool)) × (List (Int × Int)) × (List (List (Int × Int))) × (List (Int × Int × Int × Int × Bool)) × Int × Int × Int × Int) → Option Int)) (v : Int × Int × Int × Int × Int × Int × List Int × List Int × (List (Int × Int × Bool)) × (List (Int × Int)) × (List (List (Int × Int))) × (List (Int × Int × Int × Int × Bool)) × Int × Int × Int × Int) : Option Int :=
  (F30_0 v).bind fun r147 =>
  bif (!r147) then
    some (42 : Int)
  else
    (F31_0 (v.2.1, ((17179869184 : Int), (274877906944 : Int)))).bind fun r148 =>
    bif (!r148) then
      some (40 : Int)
    else
      (F31_0 (v.2.2.2.2.1, ((-140737488355328 : Int), (140737488355328 : Int)))).bind fun r149 =>
      bif (!r149) then
        some (40 : Int)
      else
        (F31_0 (v.2.2.2.2.2.1, ((-140737488355328 : Int), (140737488355328 : Int)))).bind fun r150 =>
        bif (!r150) then
          some (40 : Int)
        else
          (F32_0 v).bind fun r151 =>
          bif (!r151) then
            some (40 : Int)
          else
            K.1 ((0 : Int), v)

def K10_0 : Nat → ((Int × Int × Int × Int × Int × Int × Int × List Int × List Int × (List (Int × Int × Bool)) × (List (Int × Int)) × (List (List (Int × Int))) × (List (Int × Int × Int × Int × Bool)) × Int × Int × Int × Int) → Option Int) × ((Int × Int × Int × Int × Int × Int × Int × List Int × List Int × (List (Int × Int × Bool)) × (List (Int × Int)) × (List (List (Int × Int))) × (List (Int × Int × Int × Int × Bool)) × Int × Int × Int × Int) → Option Int)
  | 0 => (fun _ => none, fun _ => none)
  | n + 1 => (B10_0_6 (K10_0 n), B10_0_11 (K10_0 n))
def fuel10_0 (v : Int × Int × Int × Int × Int × Int × List Int × List Int × (List (Int × Int × Bool)) × (List (Int × Int)) × (List (List (Int × Int))) × (List (Int × Int × Int × Int × Bool)) × Int × Int × Int × Int) : Nat := 1300
def F10_0 (v : Int × Int × Int × Int × Int × Int × List Int × List Int × (List (Int × Int × Bool)) × (List (Int × Int)) × (List (List (Int × Int))) × (List (Int × Int × Int × Int × Bool)) × Int × Int × Int × Int) : Option Int := E10_0 (K10_0 (fuel10_0 v)) v
noncomputable def k10_0 : List (Known Tryz.prog E) := [Known.of envOk [9] [(.agg [.keep, .keep, .keep, .keep, .keep, .keep, (.ros 22), (.ros 3), (.ros 64), (.ros 24), (.ros 28), (.ros 187), .keep, .keep, .keep, .keep])] v30_0 F30_0 w30_0 ok30_0, Known.of envOk [1, 1, 1] [.keep, .keep, .keep] v31_0 F31_0 w31_0 ok31_0, Known.of envOk [9] [(.agg [.keep, .keep, .keep, .keep, .keep, .keep, (.ros 22), (.ros 3), (.ros 64), (.ros 24), (.ros 28), (.ros 187), .keep, .keep, .keep, .keep])] v32_0 F32_0 w32_0 ok32_0]
def s10_0_11 : List (Nat × Pat) := [(1, (.ptr 0 0 34 [.keep, .keep, .keep, .keep, .keep, .keep, (.ros 22), (.ros 3), (.ros 64), (.ros 24), (.ros 28), (.ros 187), .keep, .keep, .keep, .keep])), (4, .keep)]
def s10_0_6 : List (Nat × Pat) := [(1, (.ptr 0 0 34 [.keep, .keep, .keep, .keep, .keep, .keep, (.ros 22), (.ros 3), (.ros 64), (.ros 24), (.ros 28), (.ros 187), .keep, .keep, .keep, .keep])), (3, .keep)]
noncomputable def L10_0 (n id : Nat) (st : St G) : Option Int := match Nat.beq id 6 with | true => cutK Tryz.prog s10_0_6 [] c10_0_6.dec (K10_0 n).1 st | false => match Nat.beq id 11 with | true => cutK Tryz.prog s10_0_11 [] c10_0_11.dec (K10_0 n).2 st | false => none
set_option maxRecDepth 100000 in
theorem e10_0 (n : Nat) (v : Int × Int × Int × Int × Int × Int × List Int × List Int × (List (Int × Int × Bool)) × (List (Int × Int)) × (List (List (Int × Int))) × (List (Int × Int × Int × Int × Bool)) × Int × Int × Int × Int) : ev Tryz.prog E (oracle k10_0) Tryz.f10.ntmps (fun x => mem x [6, 11]) (L10_0 n) (finF Tryz.prog E Tryz.f10.results.toList [[]] w10_0.alts) 4000 [.code (Tryz.f10.body.getD .skip)] (argSt (v10_0.enc v)) = E10_0 (K10_0 n) v := by kernel_rfl
set_option maxRecDepth 100000 in
theorem b10_0_6 (n : Nat) (v : Int × Int × Int × Int × Int × Int × Int × List Int × List Int × (List (Int × Int × Bool)) × (List (Int × Int)) × (List (List (Int × Int))) × (List (Int × Int × Int × Int × Bool)) × Int × Int × Int × Int) : evCut Tryz.prog E (oracle k10_0) false 10 Tryz.f10.ntmps (fun x => mem x [6, 11]) (L10_0 n) (finF Tryz.prog E Tryz.f10.results.toList [[]] w10_0.alts) 4000 (todoAt (Tryz.f10.body.getD .skip) 6) (cutSt s10_0_6 (c10_0_6.enc v)) = B10_0_6 (K10_0 n) v := by kernel_rfl
set_option maxRecDepth 100000 in
theorem b10_0_11 (n : Nat) (v : Int × Int × Int × Int × Int × Int × Int × List Int × List Int × (List (Int × Int × Bool)) × (List (Int × Int)) × (List (List (Int × Int))) × (List (Int × Int × Int × Int × Bool)) × Int × Int × Int × Int) : evCut Tryz.prog E (oracle k10_0) false 10 Tryz.f10.ntmps (fun x => mem x [6, 11]) (L10_0 n) (finF Tryz.prog E Tryz.f10.results.toList [[]] w10_0.alts) 4000 (todoAt (Tryz.f10.body.getD .skip) 11) (cutSt s10_0_11 (c10_0_11.enc v)) = B10_0_11 (K10_0 n) v := by kernel_rfl
theorem ok10_0 : FnOk Tryz.prog E 10 v10_0.enc F10_0 w10_0.enc :=
  fn_known (fn := Tryz.f10) (c := (Tryz.f10.body.getD .skip)) Tryz.func10 (by kernel_rfl) rfl envOk (oracle_ok k10_0) mixed v10_0 F10_0 w10_0 [] [[]] (by kernel_rfl) [6, 11] 4000 L10_0 (by kernel_rfl)
    (List.forall_mem_cons.2 ⟨⟨_, [], s10_0_6, c10_0_6.dec, c10_0_6.enc, fun n => (K10_0 n).1, c10_0_6.ok, fun _ _ => rfl, fun _ => rfl, by kernel_rfl, fun n v _ h => (b10_0_6 n v).trans h⟩, List.forall_mem_cons.2 ⟨⟨_, [], s10_0_11, c10_0_11.dec, c10_0_11.enc, fun n => (K10_0 n).2, c10_0_11.ok, fun _ _ => rfl, fun _ => rfl, by kernel_rfl, fun n v _ h => (b10_0_11 n v).trans h⟩, fun _ h => (nomatch h)⟩⟩) (fun v _ h => ⟨fuel10_0 v, (e10_0 _ v).trans h⟩) (fun _ => by kernel_rfl) (fun _ => by kernel_rfl) (fun _ _ => by kernel_rfl)
/- chicane/chicanelaw13.few -/
abbrev A4_0 : Type := Int × Int × Int × Int × Int × Int × List Int × List Int × (List (Int × Int × Bool)) × (List (Int × Int)) × (List (List (Int × Int))) × (List (Int × Int × Int × Int × Bool)) × Int × Int × Int × Int
abbrev R4_0 : Type := Bool
def v4_0 : Pk G (Int × Int × Int × Int × Int × Int × List Int × List Int × (List (Int × Int × Bool)) × (List (Int × Int)) × (List (List (Int × Int))) × (List (Int × Int × Int × Int × Bool)) × Int × Int × Int × Int) := (Pk.fst (pk (Sh.fst (Sh.cons (Sh.agg (Sh.cons (Sh.int .i64) (Sh.cons (Sh.int .i64) (Sh.cons (Sh.int .i64) (Sh.cons (Sh.int .i64) (Sh.cons (Sh.int .i64) (Sh.cons (Sh.int .i64) (Sh.cons (Sh.ros 22) (Sh.cons (Sh.ros 3) (Sh.cons (Sh.ros 64) (Sh.cons (Sh.ros 24) (Sh.cons (Sh.ros 28) (Sh.cons (Sh.ros 187) (Sh.cons (Sh.int .i64) (Sh.cons (Sh.int .i64) (Sh.cons (Sh.int .u32) (Sh.fst (Sh.cons (Sh.int .i64) Sh.nil)))))))))))))))))) Sh.nil)) Sh.hnil))
def w4_0 : Wk G Bool := (Wk.one [.keep] (Pk.fst (pk (Sh.fst (Sh.cons Sh.bool Sh.nil)) Sh.hnil)))
def F4_0 (v : Int × Int × Int × Int × Int × Int × List Int × List Int × (List (Int × Int × Bool)) × (List (Int × Int)) × (List (List (Int × Int))) × (List (Int × Int × Int × Int × Bool)) × Int × Int × Int × Int) : Option Bool :=
  (F9_0 v).bind fun r163 =>
  bif r163 then
    bif (decide (((v.2.2.2.2.2.2.2.1).length : Int) ≤ (100 : Int))) then
      (F10_0 v).bind fun r164 =>
      some (r164 == (0 : Int))
    else
      some (false)
  else
    some (false)

noncomputable def k4_0 : List (Known Tryz.prog E) := [Known.of envOk [9] [(.agg [.keep, .keep, .keep, .keep, .keep, .keep, (.ros 22), (.ros 3), (.ros 64), (.ros 24), (.ros 28), (.ros 187), .keep, .keep, .keep, .keep])] v9_0 F9_0 w9_0 ok9_0, Known.of envOk [9] [(.agg [.keep, .keep, .keep, .keep, .keep, .keep, (.ros 22), (.ros 3), (.ros 64), (.ros 24), (.ros 28), (.ros 187), .keep, .keep, .keep, .keep])] v10_0 F10_0 w10_0 ok10_0]
noncomputable def L4_0 (n id : Nat) (st : St G) : Option Bool := none
set_option maxRecDepth 100000 in
theorem e4_0 (n : Nat) (v : Int × Int × Int × Int × Int × Int × List Int × List Int × (List (Int × Int × Bool)) × (List (Int × Int)) × (List (List (Int × Int))) × (List (Int × Int × Int × Int × Bool)) × Int × Int × Int × Int) : ev Tryz.prog E (oracle k4_0) Tryz.f4.ntmps (fun x => mem x []) (L4_0 n) (finF Tryz.prog E Tryz.f4.results.toList [[]] w4_0.alts) 4000 [.code (Tryz.f4.body.getD .skip)] (argSt (v4_0.enc v)) = F4_0 v := by kernel_rfl
theorem ok4_0 : FnOk Tryz.prog E 4 v4_0.enc F4_0 w4_0.enc :=
  fn_known (fn := Tryz.f4) (c := (Tryz.f4.body.getD .skip)) Tryz.func4 (by kernel_rfl) rfl envOk (oracle_ok k4_0) mixed v4_0 F4_0 w4_0 [] [[]] (by kernel_rfl) [] 4000 L4_0 (by kernel_rfl)
    (fun _ h => nomatch h) (fun v _ h => ⟨0, (e4_0 _ v).trans h⟩) (fun _ => by kernel_rfl) (fun _ => by kernel_rfl) (fun _ _ => by kernel_rfl)
/- chicane/chicanelaw13.level -/
abbrev A11_0 : Type := Unit
abbrev R11_0 : Type := (Int × Int × Int × Int × Int × Int × Int × Int × Int × Int) × (List (Int × Int × Bool)) × List Int × List Int
def v11_0 : Pk G Unit := (Pk.snd (pk Sh.nil Sh.hnil))
def w11_0 : Wk G ((Int × Int × Int × Int × Int × Int × Int × Int × Int × Int) × (List (Int × Int × Bool)) × List Int × List Int) := (Wk.one [(.agg [.keep, .keep, .keep, .keep, .keep, .keep, (.own 0 22), (.own 1 3), (.own 2 64), .keep, .keep, .keep, .keep, .keep, .keep, .keep])] (pk (Sh.fst (Sh.cons (Sh.agg (Sh.cons (Sh.int .i64) (Sh.cons (Sh.int .i64) (Sh.cons (Sh.int .i64) (Sh.cons (Sh.int .i64) (Sh.cons (Sh.int .i64) (Sh.cons (Sh.int .i64) (Sh.snd (Sh.cons (Sh.osl 0) (Sh.snd (Sh.cons (Sh.osl 1) (Sh.snd (Sh.cons (Sh.osl 2) (Sh.snd (Sh.cons Sh.nilsl (Sh.snd (Sh.cons Sh.nilsl (Sh.snd (Sh.cons Sh.nilsl (Sh.cons (Sh.int .i64) (Sh.cons (Sh.int .i64) (Sh.cons (Sh.int .u32) (Sh.fst (Sh.cons (Sh.int .i64) Sh.nil)))))))))))))))))))))))) Sh.nil)) (Sh.hrow 2 64 (Sh.hrow 1 3 (Sh.fst (Sh.hrow 0 22 Sh.hnil))))))
def F11_0 (v : Unit) : Option ((Int × Int × Int × Int × Int × Int × Int × Int × Int × Int) × (List (Int × Int × Bool)) × List Int × List Int) :=
  some (((0 : Int), ((34359738368 : Int), ((1 : Int), ((1 : Int), ((0 : Int), ((0 : Int), ((0 : Int), ((0 : Int), ((0 : Int), (0 : Int)))))))))), (([((4294967296 : Int), ((0 : Int), false))] : List (Int × Int × Bool)), (([(0 : Int)] : List Int), ([(0 : Int), (0 : Int), (0 : Int), (0 : Int)] : List Int))))

noncomputable def k11_0 : List (Known Tryz.prog E) := []
noncomputable def L11_0 (n id : Nat) (st : St G) : Option ((Int × Int × Int × Int × Int × Int × Int × Int × Int × Int) × (List (Int × Int × Bool)) × List Int × List Int) := none
set_option maxRecDepth 100000 in
theorem e11_0 (n : Nat) (v : Unit) : ev Tryz.prog E (oracle k11_0) Tryz.f11.ntmps (fun x => mem x []) (L11_0 n) (finF Tryz.prog E Tryz.f11.results.toList [[]] w11_0.alts) 4000 [.code (Tryz.f11.body.getD .skip)] (argSt (v11_0.enc v)) = F11_0 v := by kernel_rfl
theorem ok11_0 : FnOk Tryz.prog E 11 v11_0.enc F11_0 w11_0.enc :=
  fn_known (fn := Tryz.f11) (c := (Tryz.f11.body.getD .skip)) Tryz.func11 (by kernel_rfl) rfl envOk (oracle_ok k11_0) mixed v11_0 F11_0 w11_0 [] [[]] (by kernel_rfl) [] 4000 L11_0 (by kernel_rfl)
    (fun _ h => nomatch h) (fun v _ h => ⟨0, (e11_0 _ v).trans h⟩) (fun _ => by kernel_rfl) (fun _ => by kernel_rfl) (fun _ _ => by kernel_rfl)
/- chicane/field.counted$1 -/
abbrev A33_0 : Type := Int
abbrev R33_0 : Type := Bool
def v33_0 : Pk G Int := (Pk.fst (pk (Sh.fst (Sh.cons (Sh.int .i64) Sh.nil)) Sh.hnil))
def w33_0 : Wk G Bool := (Wk.one [.keep] (Pk.fst (pk (Sh.fst (Sh.cons Sh.bool Sh.nil)) Sh.hnil)))
def F33_0 (v : Int) : Option Bool :=
  bif (decide ((1 : Int) ≤ v)) then
    some (decide (v ≤ (64 : Int)))
  else
    some (false)

noncomputable def k33_0 : List (Known Tryz.prog E) := []
noncomputable def L33_0 (n id : Nat) (st : St G) : Option Bool := none
set_option maxRecDepth 100000 in
theorem e33_0 (n : Nat) (v : Int) : ev Tryz.prog E (oracle k33_0) Tryz.f33.ntmps (fun x => mem x []) (L33_0 n) (finF Tryz.prog E Tryz.f33.results.toList [[]] w33_0.alts) 4000 [.code (Tryz.f33.body.getD .skip)] (argSt (v33_0.enc v)) = F33_0 v := by kernel_rfl
theorem ok33_0 : FnOk Tryz.prog E 33 v33_0.enc F33_0 w33_0.enc :=
  fn_known (fn := Tryz.f33) (c := (Tryz.f33.body.getD .skip)) Tryz.func33 (by kernel_rfl) rfl envOk (oracle_ok k33_0) mixed v33_0 F33_0 w33_0 [] [[]] (by kernel_rfl) [] 4000 L33_0 (by kernel_rfl)
    (fun _ h => nomatch h) (fun v _ h => ⟨0, (e33_0 _ v).trans h⟩) (fun _ => by kernel_rfl) (fun _ => by kernel_rfl) (fun _ _ => by kernel_rfl)
/- chicane/field.counted -/
abbrev A12_0 : Type := Int × Int × Int × Int × Int × Int × List Int × List Int × (List (Int × Int × Bool)) × (List (Int × Int)) × (List (List (Int × Int))) × (List (Int × Int × Int × Int × Bool)) × Int × Int × Int × Int
abbrev R12_0 : Type := Bool
def v12_0 : Pk G (Int × Int × Int × Int × Int × Int × List Int × List Int × (List (Int × Int × Bool)) × (List (Int × Int)) × (List (List (Int × Int))) × (List (Int × Int × Int × Int × Bool)) × Int × Int × Int × Int) := (Pk.fst (pk (Sh.fst (Sh.cons (Sh.agg (Sh.cons (Sh.int .i64) (Sh.cons (Sh.int .i64) (Sh.cons (Sh.int .i64) (Sh.cons (Sh.int .i64) (Sh.cons (Sh.int .i64) (Sh.cons (Sh.int .i64) (Sh.cons (Sh.ros 22) (Sh.cons (Sh.ros 3) (Sh.cons (Sh.ros 64) (Sh.cons (Sh.ros 24) (Sh.cons (Sh.ros 28) (Sh.cons (Sh.ros 187) (Sh.cons (Sh.int .i64) (Sh.cons (Sh.int .i64) (Sh.cons (Sh.int .u32) (Sh.fst (Sh.cons (Sh.int .i64) Sh.nil)))))))))))))))))) Sh.nil)) Sh.hnil))
def w12_0 : Wk G Bool := (Wk.one [.keep] (Pk.fst (pk (Sh.fst (Sh.cons Sh.bool Sh.nil)) Sh.hnil)))
def F12_0 (v : Int × Int × Int × Int × Int × Int × List Int × List Int × (List (Int × Int × Bool)) × (List (Int × Int)) × (List (List (Int × Int))) × (List (Int × Int × Int × Int × Bool)) × Int × Int × Int × Int) : Option Bool :=
  (F33_0 v.2.2.1).bind fun r179 =>
  bif (!r179) then
    some (false)
  else
    (F33_0 v.2.2.2.1).bind fun r180 =>
    bif (!r180) then
      some (false)
    else
      bif (decide (((v.2.2.2.2.2.2.2.2.1).length : Int) < (1 : Int))) then
        some (false)
      else
        bif (decide (((v.2.2.2.2.2.2.2.2.1).length : Int) > (8 : Int))) then
          some (false)
        else
          let x181 : Int := (IntKind.wrap .i64 (v.2.2.1 + (1 : Int)))
          let x182 : Int := (IntKind.wrap .i64 (v.2.2.2.1 + (1 : Int)))
          let x183 : Int := (IntKind.wrap .i64 (x181 * x182))
          bif (((v.2.2.2.2.2.2.1).length : Int) == x183) then
            let x184 : Int := (IntKind.wrap .i64 (v.2.2.1 * v.2.2.2.1))
            some (((v.2.2.2.2.2.2.2.1).length : Int) == x184)
          else
            some (false)

noncomputable def k12_0 : List (Known Tryz.prog E) := [Known.of envOk [1] [.keep] v33_0 F33_0 w33_0 ok33_0]
noncomputable def L12_0 (n id : Nat) (st : St G) : Option Bool := none
set_option maxRecDepth 100000 in
theorem e12_0 (n : Nat) (v : Int × Int × Int × Int × Int × Int × List Int × List Int × (List (Int × Int × Bool)) × (List (Int × Int)) × (List (List (Int × Int))) × (List (Int × Int × Int × Int × Bool)) × Int × Int × Int × Int) : ev Tryz.prog E (oracle k12_0) Tryz.f12.ntmps (fun x => mem x []) (L12_0 n) (finF Tryz.prog E Tryz.f12.results.toList [[]] w12_0.alts) 4000 [.code (Tryz.f12.body.getD .skip)] (argSt (v12_0.enc v)) = F12_0 v := by kernel_rfl
theorem ok12_0 : FnOk Tryz.prog E 12 v12_0.enc F12_0 w12_0.enc :=
  fn_known (fn := Tryz.f12) (c := (Tryz.f12.body.getD .skip)) Tryz.func12 (by kernel_rfl) rfl envOk (oracle_ok k12_0) mixed v12_0 F12_0 w12_0 [] [[]] (by kernel_rfl) [] 4000 L12_0 (by kernel_rfl)
    (fun _ h => nomatch h) (fun v _ h => ⟨0, (e12_0 _ v).trans h⟩) (fun _ => by kernel_rfl) (fun _ => by kernel_rfl) (fun _ _ => by kernel_rfl)
/- slices.Clone[[]chicane/api.Fx,chicane/api.Fx] -/
abbrev A13_n : Type := Unit
abbrev R13_n : Type := List Int
def v13_n : Pk G Unit := (Pk.snd (pk (Sh.snd (Sh.cons Sh.nilsl Sh.nil)) Sh.hnil))
def w13_n : Wk G (List Int) := (Wk.one [(.own 0 22)] (Pk.snd (pk (Sh.snd (Sh.cons (Sh.osl 0) Sh.nil)) (Sh.fst (Sh.hrow 0 22 Sh.hnil)))))
def F13_n (v : Unit) : Option (List Int) :=
  some ([] : List Int)

noncomputable def k13_n : List (Known Tryz.prog E) := []
noncomputable def L13_n (n id : Nat) (st : St G) : Option (List Int) := none
set_option maxRecDepth 100000 in
theorem e13_n (n : Nat) (v : Unit) : ev Tryz.prog E (oracle k13_n) Tryz.f13.ntmps (fun x => mem x []) (L13_n n) (finF Tryz.prog E Tryz.f13.results.toList [[]] w13_n.alts) 4000 [.code (Tryz.f13.body.getD .skip)] (argSt (v13_n.enc v)) = F13_n v := by kernel_rfl
theorem ok13_n : FnOk Tryz.prog E 13 v13_n.enc F13_n w13_n.enc :=
  fn_known (fn := Tryz.f13) (c := (Tryz.f13.body.getD .skip)) Tryz.func13 (by kernel_rfl) rfl envOk (oracle_ok k13_n) mixed v13_n F13_n w13_n [] [[]] (by kernel_rfl) [] 4000 L13_n (by kernel_rfl)
    (fun _ h => nomatch h) (fun v _ h => ⟨0, (e13_n _ v).trans h⟩) (fun _ => by kernel_rfl) (fun _ => by kernel_rfl) (fun _ _ => by kernel_rfl)
/- slices.Clone[[]chicane/api.Fx,chicane/api.Fx] -/
abbrev A13_r : Type := List Int
abbrev R13_r : Type := List Int
def v13_r : Pk G (List Int) := (Pk.fst (pk (Sh.fst (Sh.cons (Sh.rosn 22) Sh.nil)) Sh.hnil))
def w13_r : Wk G (List Int) := (Wk.one [(.own 0 22)] (Pk.snd (pk (Sh.snd (Sh.cons (Sh.osl 0) Sh.nil)) (Sh.fst (Sh.hrow 0 22 Sh.hnil)))))
def F13_r (v : List Int) : Option (List Int) :=
  (chk (decide (((([] : List Int)).length + (v).length) * 8 ≤ 140737488355328))).bind fun _ =>
  let x188 : List Int := (([] : List Int) ++ v)
  some (x188)

noncomputable def k13_r : List (Known Tryz.prog E) := []
noncomputable def L13_r (n id : Nat) (st : St G) : Option (List Int) := none
set_option maxRecDepth 100000 in
theorem e13_r (n : Nat) (v : List Int) : ev Tryz.prog E (oracle k13_r) Tryz.f13.ntmps (fun x => mem x []) (L13_r n) (finF Tryz.prog E Tryz.f13.results.toList [[]] w13_r.alts) 4000 [.code (Tryz.f13.body.getD .skip)] (argSt (v13_r.enc v)) = F13_r v := by kernel_rfl
theorem ok13_r : FnOk Tryz.prog E 13 v13_r.enc F13_r w13_r.enc :=
  fn_known (fn := Tryz.f13) (c := (Tryz.f13.body.getD .skip)) Tryz.func13 (by kernel_rfl) rfl envOk (oracle_ok k13_r) mixed v13_r F13_r w13_r [] [[]] (by kernel_rfl) [] 4000 L13_r (by kernel_rfl)
    (fun _ h => nomatch h) (fun v _ h => ⟨0, (e13_r _ v).trans h⟩) (fun _ => by kernel_rfl) (fun _ => by kernel_rfl) (fun _ _ => by kernel_rfl)
/- slices.Clone[[]chicane/api.Fx,chicane/api.Fx] -/
abbrev A13_0 : Type := List Int
abbrev R13_0 : Type := List Int
def v13_0 : Pk G (List Int) := (Pk.fst (pk (Sh.fst (Sh.cons (Sh.ros 22) Sh.nil)) Sh.hnil))
def w13_0 : Wk G (List Int) := (Wk.one [(.own 0 22)] (Pk.snd (pk (Sh.snd (Sh.cons (Sh.osl 0) Sh.nil)) (Sh.fst (Sh.hrow 0 22 Sh.hnil)))))
def F13_0 (v : List Int) : Option (List Int) := F13_r v
theorem on13_0 : FnOk Tryz.prog E 13 (fun _ : Unit => ([AV.nilsl], [])) F13_n w13_0.enc := ok13_n
theorem or13_0 : FnOk Tryz.prog E 13 (fun xs : List (G 22) => ([AV.rosn 22 xs], [])) F13_r w13_0.enc := ok13_r
theorem ok13_0 : FnOk Tryz.prog E 13 v13_0.enc F13_0 w13_0.enc := FnOk.split (e := 22) on13_0 or13_0 (fun _ h => (by kernel_rfl : F13_n () = F13_r []).trans h) (fun _ _ h => h)
/- slices.Clone[[]int,int] -/
abbrev A14_n : Type := Unit
abbrev R14_n : Type := List Int
def v14_n : Pk G Unit := (Pk.snd (pk (Sh.snd (Sh.cons Sh.nilsl Sh.nil)) Sh.hnil))
def w14_n : Wk G (List Int) := (Wk.one [(.own 0 3)] (Pk.snd (pk (Sh.snd (Sh.cons (Sh.osl 0) Sh.nil)) (Sh.fst (Sh.hrow 0 3 Sh.hnil)))))
def F14_n (v : Unit) : Option (List Int) :=
  some ([] : List Int)

noncomputable def k14_n : List (Known Tryz.prog E) := []
noncomputable def L14_n (n id : Nat) (st : St G) : Option (List Int) := none
set_option maxRecDepth 100000 in
theorem e14_n (n : Nat) (v : Unit) : ev Tryz.prog E (oracle k14_n) Tryz.f14.ntmps (fun x => mem x []) (L14_n n) (finF Tryz.prog E Tryz.f14.results.toList [[]] w14_n.alts) 4000 [.code (Tryz.f14.body.getD .skip)] (argSt (v14_n.enc v)) = F14_n v := by kernel_rfl
theorem ok14_n : FnOk Tryz.prog E 14 v14_n.enc F14_n w14_n.enc :=
  fn_known (fn := Tryz.f14) (c := (Tryz.f14.body.getD .skip)) Tryz.func14 (by kernel_rfl) rfl envOk (oracle_ok k14_n) mixed v14_n F14_n w14_n [] [[]] (by kernel_rfl) [] 4000 L14_n (by kernel_rfl)
    (fun _ h => nomatch h) (fun v _ h => ⟨0, (e14_n _ v).trans h⟩) (fun _ => by kernel_rfl) (fun _ => by kernel_rfl) (fun _ _ => by kernel_rfl)
/- slices.Clone[[]int,int] -/
abbrev A14_r : Type := List Int
abbrev R14_r : Type := List Int
def v14_r : Pk G (List Int) := (Pk.fst (pk (Sh.fst (Sh.cons (Sh.rosn 3) Sh.nil)) Sh.hnil))
def w14_r : Wk G (List Int) := (Wk.one [(.own 0 3)] (Pk.snd (pk (Sh.snd (Sh.cons (Sh.osl 0) Sh.nil)) (Sh.fst (Sh.hrow 0 3 Sh.hnil)))))
def F14_r (v : List Int) : Option (List Int) :=
  (chk (decide (((([] : List Int)).length + (v).length) * 8 ≤ 140737488355328))).bind fun _ =>
  let x192 : List Int := (([] : List Int) ++ v)
  some (x192)

noncomputable def k14_r : List (Known Tryz.prog E) := []
noncomputable def L14_r (n id : Nat) (st : St G) : Option (List Int) := none
set_option maxRecDepth 100000 in
theorem e14_r (n : Nat) (v : List Int) : ev Tryz.prog E (oracle k14_r) Tryz.f14.ntmps (fun x => mem x []) (L14_r n) (finF Tryz.prog E Tryz.f14.results.toList [[]] w14_r.alts) 4000 [.code (Tryz.f14.body.getD .skip)] (argSt (v14_r.enc v)) = F14_r v := by kernel_rfl
theorem ok14_r : FnOk Tryz.prog E 14 v14_r.enc F14_r w14_r.enc :=
  fn_known (fn := Tryz.f14) (c := (Tryz.f14.body.getD .skip)) Tryz.func14 (by kernel_rfl) rfl envOk (oracle_ok k14_r) mixed v14_r F14_r w14_r [] [[]] (by kernel_rfl) [] 4000 L14_r (by kernel_rfl)
    (fun _ h => nomatch h) (fun v _ h => ⟨0, (e14_r _ v).trans h⟩) (fun _ => by kernel_rfl) (fun _ => by kernel_rfl) (fun _ _ => by kernel_rfl)
/- slices.Clone[[]int,int] -/
abbrev A14_0 : Type := List Int
abbrev R14_0 : Type := List Int
def v14_0 : Pk G (List Int) := (Pk.fst (pk (Sh.fst (Sh.cons (Sh.ros 3) Sh.nil)) Sh.hnil))
def w14_0 : Wk G (List Int) := (Wk.one [(.own 0 3)] (Pk.snd (pk (Sh.snd (Sh.cons (Sh.osl 0) Sh.nil)) (Sh.fst (Sh.hrow 0 3 Sh.hnil)))))
def F14_0 (v : List Int) : Option (List Int) := F14_r v
theorem on14_0 : FnOk Tryz.prog E 14 (fun _ : Unit => ([AV.nilsl], [])) F14_n w14_0.enc := ok14_n
theorem or14_0 : FnOk Tryz.prog E 14 (fun xs : List (G 3) => ([AV.rosn 3 xs], [])) F14_r w14_0.enc := ok14_r
theorem ok14_0 : FnOk Tryz.prog E 14 v14_0.enc F14_0 w14_0.enc := FnOk.split (e := 3) on14_0 or14_0 (fun _ h => (by kernel_rfl : F14_n () = F14_r []).trans h) (fun _ _ h => h)
/- chicane/field.size$1 -/
abbrev A35_0 : Type := Int × Int
abbrev R35_0 : Type := Bool × Int
def v35_0 : Pk G (Int × Int) := (pk (Sh.fst (Sh.cons (Sh.int .i64) (Sh.snd (Sh.cons (Sh.ptr 0 0) Sh.nil)))) (Sh.fst (Sh.hfix 0 22 (Sh.fst (Sh.cons (Sh.int .i64) Sh.nil)) Sh.hnil)))
def w35_0 : Wk G (Bool × Int) := (Wk.one [.keep] (pk (Sh.fst (Sh.cons Sh.bool Sh.nil)) (Sh.fst (Sh.hfix 0 22 (Sh.fst (Sh.cons (Sh.int .i64) Sh.nil)) Sh.hnil))))
def F35_0 (v : Int × Int) : Option (Bool × Int) :=
  bif (decide (v.1 > v.2)) then
    some (true, v.2)
  else
    let x198 : Int := (IntKind.wrap .i64 (0 - v.2))
    some ((decide (v.1 < x198)), v.2)

noncomputable def k35_0 : List (Known Tryz.prog E) := []
noncomputable def L35_0 (n id : Nat) (st : St G) : Option (Bool × Int) := none
set_option maxRecDepth 100000 in
theorem e35_0 (n : Nat) (v : Int × Int) : ev Tryz.prog E (oracle k35_0) Tryz.f35.ntmps (fun x => mem x []) (L35_0 n) (finF Tryz.prog E Tryz.f35.results.toList [[(.ptr 0 0 22 [.keep])]] w35_0.alts) 4000 [.code (Tryz.f35.body.getD .skip)] (argSt (v35_0.enc v)) = F35_0 v := by kernel_rfl
theorem ok35_0 : FnOk Tryz.prog E 35 v35_0.enc F35_0 w35_0.enc :=
  fn_known (fn := Tryz.f35) (c := (Tryz.f35.body.getD .skip)) Tryz.func35 (by kernel_rfl) rfl envOk (oracle_ok k35_0) mixed v35_0 F35_0 w35_0 [(.ptr 0 0 22 [.keep])] [[(.ptr 0 0 22 [.keep])]] (by kernel_rfl) [] 4000 L35_0 (by kernel_rfl)
    (fun _ h => nomatch h) (fun v _ h => ⟨0, (e35_0 _ v).trans h⟩) (fun _ => by kernel_rfl) (fun _ => by kernel_rfl) (fun _ _ => by kernel_rfl)
/- slices.IndexFunc[[]chicane/api.Fx,chicane/api.Fx] -/
abbrev A63_0 : Type := List Int × Int
abbrev R63_0 : Type := Int × Int
def v63_0 : Pk G (List Int × Int) := (pk (Sh.fst (Sh.cons (Sh.ros 22) (Sh.snd (Sh.cons (Sh.snd (Sh.fn (.func 35) Sh.nil (Sh.snd (Sh.cons (Sh.ptr 0 0) Sh.nil)))) Sh.nil)))) (Sh.fst (Sh.hfix 0 22 (Sh.fst (Sh.cons (Sh.int .i64) Sh.nil)) Sh.hnil)))
def w63_0 : Wk G (Int × Int) := (Wk.one [.keep] (pk (Sh.fst (Sh.cons (Sh.int .i64) Sh.nil)) (Sh.fst (Sh.hfix 0 22 (Sh.fst (Sh.cons (Sh.int .i64) Sh.nil)) Sh.hnil))))
def c63_0_2 : Pk G ((List Int × Int × Int) × Int) := (pk (Sh.cons (Sh.ros 22) (Sh.snd (Sh.cons (Sh.snd (Sh.fn (.func 35) Sh.nil (Sh.snd (Sh.cons (Sh.ptr 0 0) Sh.nil)))) (Sh.cons (Sh.int .i64) (Sh.fst (Sh.cons (Sh.int .i64) Sh.nil)))))) (Sh.fst (Sh.hfix 0 22 (Sh.fst (Sh.cons (Sh.int .i64) Sh.nil)) Sh.hnil)))
def B63_0_2 (K : (((List Int × Int × Int) × Int) → Option (Int × Int))) (v : (List Int × Int × Int) × Int) : Option (Int × Int) :=
  bif (decide (v.1.2.2 < v.1.2.1)) then
    (rdx v.1.1 v.1.2.2).bind fun (x205 : Int) =>
    (F35_0 (x205, v.2)).bind fun r206 =>
    bif r206.1 then
      some (v.1.2.2, r206.2)
    else
      let x207 : Int := (IntKind.wrap .i64 (v.1.2.2 + (1 : Int)))
      K ((v.1.1, (v.1.2.1, x207)), r206.2)
  else
    some ((-1 : Int), v.2)

def E63_0 (K : (((List Int × Int × Int) × Int) → Option (Int × Int))) (v : List Int × Int) : Option (Int × Int) :=
  K ((v.1, (((v.1).length : Int), (0 : Int))), v.2)

def K63_0 : Nat → (((List Int × Int × Int) × Int) → Option (Int × Int))
  | 0 => (fun _ => none)
  | n + 1 => (B63_0_2 (K63_0 n))
def fuel63_0 (v : List Int × Int) : Nat := 1300
def F63_0 (v : List Int × Int) : Option (Int × Int) := E63_0 (K63_0 (fuel63_0 v)) v
noncomputable def k63_0 : List (Known Tryz.prog E) := [Known.of envOk [1, 5] [.keep, (.ptr 0 0 22 [.keep])] v35_0 F35_0 w35_0 ok35_0]
def s63_0_2 : List (Nat × Pat) := [(0, (.ros 22)), (1, (.fn (.func 35) [] [(.ptr 0 0 22 [])])), (7, .keep), (8, .keep)]
noncomputable def L63_0 (n id : Nat) (st : St G) : Option (Int × Int) := match Nat.beq id 2 with | true => cutK Tryz.prog s63_0_2 [(.ptr 0 0 22 [.keep])] c63_0_2.dec (K63_0 n) st | false => none
set_option maxRecDepth 100000 in
theorem e63_0 (n : Nat) (v : List Int × Int) : ev Tryz.prog E (oracle k63_0) Tryz.f63.ntmps (fun x => mem x [2]) (L63_0 n) (finF Tryz.prog E Tryz.f63.results.toList [[(.ptr 0 0 22 [.keep])]] w63_0.alts) 4000 [.code (Tryz.f63.body.getD .skip)] (argSt (v63_0.enc v)) = E63_0 (K63_0 n) v := by kernel_rfl
set_option maxRecDepth 100000 in
theorem b63_0_2 (n : Nat) (v : (List Int × Int × Int) × Int) : evCut Tryz.prog E (oracle k63_0) false 63 Tryz.f63.ntmps (fun x => mem x [2]) (L63_0 n) (finF Tryz.prog E Tryz.f63.results.toList [[(.ptr 0 0 22 [.keep])]] w63_0.alts) 4000 (todoAt (Tryz.f63.body.getD .skip) 2) (cutSt s63_0_2 (c63_0_2.enc v)) = B63_0_2 (K63_0 n) v := by kernel_rfl
theorem ok63_0 : FnOk Tryz.prog E 63 v63_0.enc F63_0 w63_0.enc :=
  fn_known (fn := Tryz.f63) (c := (Tryz.f63.body.getD .skip)) Tryz.func63 (by kernel_rfl) rfl envOk (oracle_ok k63_0) mixed v63_0 F63_0 w63_0 [(.ptr 0 0 22 [.keep])] [[(.ptr 0 0 22 [.keep])]] (by kernel_rfl) [2] 4000 L63_0 (by kernel_rfl)
    (List.forall_mem_cons.2 ⟨⟨_, [(.ptr 0 0 22 [.keep])], s63_0_2, c63_0_2.dec, c63_0_2.enc, fun n => (K63_0 n), c63_0_2.ok, fun _ _ => rfl, fun _ => rfl, by kernel_rfl, fun n v _ h => (b63_0_2 n v).trans h⟩, fun _ h => (nomatch h)⟩) (fun v _ h => ⟨fuel63_0 v, (e63_0 _ v).trans h⟩) (fun _ => by kernel_rfl) (fun _ => by kernel_rfl) (fun _ _ => by kernel_rfl)
/- slices.ContainsFunc[[]chicane/api.Fx,chicane/api.Fx] -/
abbrev A34_0 : Type := List Int × Int
abbrev R34_0 : Type := Bool × Int
def v34_0 : Pk G (List Int × Int) := (pk (Sh.fst (Sh.cons (Sh.ros 22) (Sh.snd (Sh.cons (Sh.snd (Sh.fn (.func 35) Sh.nil (Sh.snd (Sh.cons (Sh.ptr 0 0) Sh.nil)))) Sh.nil)))) (Sh.fst (Sh.hfix 0 22 (Sh.fst (Sh.cons (Sh.int .i64) Sh.nil)) Sh.hnil)))
def w34_0 : Wk G (Bool × Int) := (Wk.one [.keep] (pk (Sh.fst (Sh.cons Sh.bool Sh.nil)) (Sh.fst (Sh.hfix 0 22 (Sh.fst (Sh.cons (Sh.int .i64) Sh.nil)) Sh.hnil))))
def F34_0 (v : List Int × Int) : Option (Bool × Int) :=
  (F63_0 v).bind fun r210 =>
  some ((decide (r210.1 ≥ (0 : Int))), r210.2)

noncomputable def k34_0 : List (Known Tryz.prog E) := [Known.of envOk [7, 135] [(.ros 22), (.fn (.func 35) [] [(.ptr 0 0 22 [.keep])])] v63_0 F63_0 w63_0 ok63_0]
noncomputable def L34_0 (n id : Nat) (st : St G) : Option (Bool × Int) := none
set_option maxRecDepth 100000 in
theorem e34_0 (n : Nat) (v : List Int × Int) : ev Tryz.prog E (oracle k34_0) Tryz.f34.ntmps (fun x => mem x []) (L34_0 n) (finF Tryz.prog E Tryz.f34.results.toList [[(.ptr 0 0 22 [.keep])]] w34_0.alts) 4000 [.code (Tryz.f34.body.getD .skip)] (argSt (v34_0.enc v)) = F34_0 v := by kernel_rfl
theorem ok34_0 : FnOk Tryz.prog E 34 v34_0.enc F34_0 w34_0.enc :=
  fn_known (fn := Tryz.f34) (c := (Tryz.f34.body.getD .skip)) Tryz.func34 (by kernel_rfl) rfl envOk (oracle_ok k34_0) mixed v34_0 F34_0 w34_0 [(.ptr 0 0 22 [.keep])] [[(.ptr 0 0 22 [.keep])]] (by kernel_rfl) [] 4000 L34_0 (by kernel_rfl)
    (fun _ h => nomatch h) (fun v _ h => ⟨0, (e34_0 _ v).trans h⟩) (fun _ => by kernel_rfl) (fun _ => by kernel_rfl) (fun _ _ => by kernel_rfl)
/- chicane/field.size -/
abbrev A17_0 : Type := Int × List Int
abbrev R17_0 : Type := Bool
def v17_0 : Pk G (Int × List Int) := (Pk.fst (pk (Sh.cons (Sh.int .i64) (Sh.fst (Sh.cons (Sh.ros 22) Sh.nil))) Sh.hnil))
def w17_0 : Wk G Bool := (Wk.one [.keep] (Pk.fst (pk (Sh.fst (Sh.cons Sh.bool Sh.nil)) Sh.hnil)))
def F17_0 (v : Int × List Int) : Option Bool :=
  (F34_0 (v.2, v.1)).bind fun r213 =>
  some (!r213.1)

noncomputable def k17_0 : List (Known Tryz.prog E) := [Known.of envOk [7, 135] [(.ros 22), (.fn (.func 35) [] [(.ptr 0 0 22 [.keep])])] v34_0 F34_0 w34_0 ok34_0]
noncomputable def L17_0 (n id : Nat) (st : St G) : Option Bool := none
set_option maxRecDepth 100000 in
theorem e17_0 (n : Nat) (v : Int × List Int) : ev Tryz.prog E (oracle k17_0) Tryz.f17.ntmps (fun x => mem x []) (L17_0 n) (finF Tryz.prog E Tryz.f17.results.toList [[]] w17_0.alts) 4000 [.code (Tryz.f17.body.getD .skip)] (argSt (v17_0.enc v)) = F17_0 v := by kernel_rfl
theorem ok17_0 : FnOk Tryz.prog E 17 v17_0.enc F17_0 w17_0.enc :=
  fn_known (fn := Tryz.f17) (c := (Tryz.f17.body.getD .skip)) Tryz.func17 (by kernel_rfl) rfl envOk (oracle_ok k17_0) mixed v17_0 F17_0 w17_0 [] [[]] (by kernel_rfl) [] 4000 L17_0 (by kernel_rfl)
    (fun _ h => nomatch h) (fun v _ h => ⟨0, (e17_0 _ v).trans h⟩) (fun _ => by kernel_rfl) (fun _ => by kernel_rfl) (fun _ _ => by kernel_rfl)
/- (*chicane/field.Field).gentle -/
abbrev A18_0 : Type := (Int × Int × Int × Int × Int) × List Int × List Int
abbrev R18_0 : Type := Bool × (Int × Int × Int × Int × Int) × List Int × List Int
def v18_0 : Pk G ((Int × Int × Int × Int × Int) × List Int × List Int) := (Pk.snd (pk (Sh.snd (Sh.cons (Sh.ptr 0 0) Sh.nil)) (Sh.hfix 0 61 (Sh.cons (Sh.int .i64) (Sh.cons (Sh.int .i64) (Sh.cons (Sh.int .i64) (Sh.cons (Sh.int .i64) (Sh.fst (Sh.cons (Sh.int .i64) (Sh.snd (Sh.cons (Sh.osl 1) (Sh.snd (Sh.cons (Sh.osl 2) Sh.nil)))))))))) (Sh.hrow 2 3 (Sh.fst (Sh.hrow 1 22 Sh.hnil))))))
def w18_0 : Wk G (Bool × (Int × Int × Int × Int × Int) × List Int × List Int) := (Wk.one [.keep] (pk (Sh.fst (Sh.cons Sh.bool Sh.nil)) (Sh.hfix 0 61 (Sh.cons (Sh.int .i64) (Sh.cons (Sh.int .i64) (Sh.cons (Sh.int .i64) (Sh.cons (Sh.int .i64) (Sh.fst (Sh.cons (Sh.int .i64) (Sh.snd (Sh.cons (Sh.osl 1) (Sh.snd (Sh.cons (Sh.osl 2) Sh.nil)))))))))) (Sh.hrow 1 22 (Sh.fst (Sh.hrow 2 3 Sh.hnil))))))
def c18_0_3 : Pk G ((Int × Int × Int) × (Int × Int × Int × Int × Int) × List Int × List Int) := (pk (Sh.snd (Sh.cons (Sh.ptr 0 0) (Sh.cons (Sh.int .i64) (Sh.snd (Sh.cons (Sh.osl 1) (Sh.cons (Sh.int .i64) (Sh.fst (Sh.cons (Sh.int .i64) Sh.nil)))))))) (Sh.hfix 0 61 (Sh.cons (Sh.int .i64) (Sh.cons (Sh.int .i64) (Sh.cons (Sh.int .i64) (Sh.cons (Sh.int .i64) (Sh.fst (Sh.cons (Sh.int .i64) (Sh.snd (Sh.cons (Sh.osl 1) (Sh.snd (Sh.cons (Sh.osl 2) Sh.nil)))))))))) (Sh.hrow 1 22 (Sh.fst (Sh.hrow 2 3 Sh.hnil)))))
def B18_0_3 (K : (((Int × Int × Int) × (Int × Int × Int × Int × Int) × List Int × List Int) → Option (Bool × (Int × Int × Int × Int × Int) × List Int × List Int))) (v : (Int × Int × Int) × (Int × Int × Int × Int × Int) × List Int × List Int) : Option (Bool × (Int × Int × Int × Int × Int) × List Int × List Int) :=
  bif (decide (v.1.2.2 < v.1.2.1)) then
    (idx v.1.2.2 (v.2.2.1).length).bind fun (x271 : Nat) =>
    ((v.2.2.1)[x271]?).bind fun (x272 : Int) =>
    let x273 : Int := (IntKind.wrap .i64 (v.1.2.2 + (1 : Int)))
    (chk (v.1.1 != 0)).bind fun _ =>
    let x274 : Int := (Int.tmod x273 v.1.1)
    bif (x274 != (0 : Int)) then
      let x275 : Int := (IntKind.wrap .i64 (v.1.2.2 + (1 : Int)))
      (idx x275 (v.2.2.1).length).bind fun (x276 : Nat) =>
      ((v.2.2.1)[x276]?).bind fun (x277 : Int) =>
      let x278 : Int := (IntKind.wrap .i64 (x277 - x272))
      (F17_0 (v.2.1.1, ([x278] : List Int))).bind fun r279 =>
      bif (!r279) then
        some (false, v.2)
      else
        let x280 : Int := (IntKind.wrap .i64 (v.1.2.2 + v.1.1))
        bif (decide (x280 < ((v.2.2.1).length : Int))) then
          let x281 : Int := (IntKind.wrap .i64 (v.1.2.2 + v.1.1))
          (idx x281 (v.2.2.1).length).bind fun (x282 : Nat) =>
          ((v.2.2.1)[x282]?).bind fun (x283 : Int) =>
          let x284 : Int := (IntKind.wrap .i64 (x283 - x272))
          (F17_0 (v.2.1.1, ([x284] : List Int))).bind fun r285 =>
          bif (!r285) then
            some (false, v.2)
          else
            let x286 : Int := (IntKind.wrap .i64 (v.1.2.2 + (1 : Int)))
            K ((v.1.1, (v.1.2.1, x286)), v.2)
        else
          let x287 : Int := (IntKind.wrap .i64 (v.1.2.2 + (1 : Int)))
          K ((v.1.1, (v.1.2.1, x287)), v.2)
    else
      let x288 : Int := (IntKind.wrap .i64 (v.1.2.2 + v.1.1))
      bif (decide (x288 < ((v.2.2.1).length : Int))) then
        let x289 : Int := (IntKind.wrap .i64 (v.1.2.2 + v.1.1))
        (idx x289 (v.2.2.1).length).bind fun (x290 : Nat) =>
        ((v.2.2.1)[x290]?).bind fun (x291 : Int) =>
        let x292 : Int := (IntKind.wrap .i64 (x291 - x272))
        (F17_0 (v.2.1.1, ([x292] : List Int))).bind fun r293 =>
        bif (!r293) then
          some (false, v.2)
        else
          let x294 : Int := (IntKind.wrap .i64 (v.1.2.2 + (1 : Int)))
          K ((v.1.1, (v.1.2.1, x294)), v.2)
      else
        let x295 : Int := (IntKind.wrap .i64 (v.1.2.2 + (1 : Int)))
        K ((v.1.1, (v.1.2.1, x295)), v.2)
  else
    some (true, v.2)

def E18_0 (K : (((Int × Int × Int) × (Int × Int × Int × Int × Int) × List Int × List Int) → Option (Bool × (Int × Int × Int × Int × Int) × List Int × List Int))) (v : (Int × Int × Int × Int × Int) × List Int × List Int) : Option (Bool × (Int × Int × Int × Int × Int) × List Int × List Int) :=
  let x270 : Int := (IntKind.wrap .i64 (v.1.2.1 + (1 : Int)))
  K ((x270, (((v.2.2).length : Int), (0 : Int))), (v.1, (v.2.2, v.2.1)))

def K18_0 : Nat → (((Int × Int × Int) × (Int × Int × Int × Int × Int) × List Int × List Int) → Option (Bool × (Int × Int × Int × Int × Int) × List Int × List Int))
  | 0 => (fun _ => none)
  | n + 1 => (B18_0_3 (K18_0 n))
def fuel18_0 (v : (Int × Int × Int × Int × Int) × List Int × List Int) : Nat := 1300
def F18_0 (v : (Int × Int × Int × Int × Int) × List Int × List Int) : Option (Bool × (Int × Int × Int × Int × Int) × List Int × List Int) := E18_0 (K18_0 (fuel18_0 v)) v
noncomputable def k18_0 : List (Known Tryz.prog E) := [Known.of envOk [1, 7] [.keep, (.ros 22)] v17_0 F17_0 w17_0 ok17_0]
def s18_0_3 : List (Nat × Pat) := [(0, (.ptr 0 0 61 [])), (3, .keep), (14, (.own 1 22)), (15, .keep), (16, .keep)]
noncomputable def L18_0 (n id : Nat) (st : St G) : Option (Bool × (Int × Int × Int × Int × Int) × List Int × List Int) := match Nat.beq id 3 with | true => cutK Tryz.prog s18_0_3 [(.own 2 3), (.own 1 22), (.ptr 0 0 61 [.keep, .keep, .keep, .keep, .keep, (.own 1 22), (.own 2 3)])] c18_0_3.dec (K18_0 n) st | false => none
set_option maxRecDepth 100000 in
theorem e18_0 (n : Nat) (v : (Int × Int × Int × Int × Int) × List Int × List Int) : ev Tryz.prog E (oracle k18_0) Tryz.f18.ntmps (fun x => mem x [3]) (L18_0 n) (finF Tryz.prog E Tryz.f18.results.toList [[(.own 2 3), (.own 1 22), (.ptr 0 0 61 [.keep, .keep, .keep, .keep, .keep, (.own 1 22), (.own 2 3)])]] w18_0.alts) 4000 [.code (Tryz.f18.body.getD .skip)] (argSt (v18_0.enc v)) = E18_0 (K18_0 n) v := by kernel_rfl
set_option maxRecDepth 100000 in
theorem b18_0_3 (n : Nat) (v : (Int × Int × Int) × (Int × Int × Int × Int × Int) × List Int × List Int) : evCut Tryz.prog E (oracle k18_0) false 18 Tryz.f18.ntmps (fun x => mem x [3]) (L18_0 n) (finF Tryz.prog E Tryz.f18.results.toList [[(.own 2 3), (.own 1 22), (.ptr 0 0 61 [.keep, .keep, .keep, .keep, .keep, (.own 1 22), (.own 2 3)])]] w18_0.alts) 4000 (todoAt (Tryz.f18.body.getD .skip) 3) (cutSt s18_0_3 (c18_0_3.enc v)) = B18_0_3 (K18_0 n) v := by kernel_rfl
theorem ok18_0 : FnOk Tryz.prog E 18 v18_0.enc F18_0 w18_0.enc :=
  fn_known (fn := Tryz.f18) (c := (Tryz.f18.body.getD .skip)) Tryz.func18 (by kernel_rfl) rfl envOk (oracle_ok k18_0) mixed v18_0 F18_0 w18_0 [(.own 2 3), (.own 1 22), (.ptr 0 0 61 [.keep, .keep, .keep, .keep, .keep, (.own 1 22), (.own 2 3)])] [[(.own 2 3), (.own 1 22), (.ptr 0 0 61 [.keep, .keep, .keep, .keep, .keep, (.own 1 22), (.own 2 3)])]] (by kernel_rfl) [3] 4000 L18_0 (by kernel_rfl)
    (List.forall_mem_cons.2 ⟨⟨_, [(.own 2 3), (.own 1 22), (.ptr 0 0 61 [.keep, .keep, .keep, .keep, .keep, (.own 1 22), (.own 2 3)])], s18_0_3, c18_0_3.dec, c18_0_3.enc, fun n => (K18_0 n), c18_0_3.ok, fun _ _ => rfl, fun _ => rfl, by kernel_rfl, fun n v _ h => (b18_0_3 n v).trans h⟩, fun _ h => (nomatch h)⟩) (fun v _ h => ⟨fuel18_0 v, (e18_0 _ v).trans h⟩) (fun _ => by kernel_rfl) (fun _ => by kernel_rfl) (fun _ _ => by kernel_rfl)
/- chicane/field.New$1 -/
abbrev A15_0 : Type := Int × Int × Int × Int × Int × Int × Int × List Int × List Int × (List (Int × Int × Bool)) × (List (Int × Int)) × (List (List (Int × Int))) × (List (Int × Int × Int × Int × Bool)) × Int × Int × Int × Int
abbrev R15_0 : Type := Bool × Int × Int × Int × Int × Int × Int × List Int × List Int × (List (Int × Int × Bool)) × (List (Int × Int)) × (List (List (Int × Int))) × (List (Int × Int × Int × Int × Bool)) × Int × Int × Int × Int
def v15_0 : Pk G (Int × Int × Int × Int × Int × Int × Int × List Int × List Int × (List (Int × Int × Bool)) × (List (Int × Int)) × (List (List (Int × Int))) × (List (Int × Int × Int × Int × Bool)) × Int × Int × Int × Int) := (pk (Sh.fst (Sh.cons (Sh.int .i64) (Sh.snd (Sh.cons (Sh.ptr 0 0) Sh.nil)))) (Sh.fst (Sh.hfix 0 34 (Sh.cons (Sh.int .i64) (Sh.cons (Sh.int .i64) (Sh.cons (Sh.int .i64) (Sh.cons (Sh.int .i64) (Sh.cons (Sh.int .i64) (Sh.cons (Sh.int .i64) (Sh.cons (Sh.ros 22) (Sh.cons (Sh.ros 3) (Sh.cons (Sh.ros 64) (Sh.cons (Sh.ros 24) (Sh.cons (Sh.ros 28) (Sh.cons (Sh.ros 187) (Sh.cons (Sh.int .i64) (Sh.cons (Sh.int .i64) (Sh.cons (Sh.int .u32) (Sh.fst (Sh.cons (Sh.int .i64) Sh.nil))))))))))))))))) Sh.hnil)))
def w15_0 : Wk G (Bool × Int × Int × Int × Int × Int × Int × List Int × List Int × (List (Int × Int × Bool)) × (List (Int × Int)) × (List (List (Int × Int))) × (List (Int × Int × Int × Int × Bool)) × Int × Int × Int × Int) := (Wk.one [.keep] (pk (Sh.fst (Sh.cons Sh.bool Sh.nil)) (Sh.fst (Sh.hfix 0 34 (Sh.cons (Sh.int .i64) (Sh.cons (Sh.int .i64) (Sh.cons (Sh.int .i64) (Sh.cons (Sh.int .i64) (Sh.cons (Sh.int .i64) (Sh.cons (Sh.int .i64) (Sh.cons (Sh.ros 22) (Sh.cons (Sh.ros 3) (Sh.cons (Sh.ros 64) (Sh.cons (Sh.ros 24) (Sh.cons (Sh.ros 28) (Sh.cons (Sh.ros 187) (Sh.cons (Sh.int .i64) (Sh.cons (Sh.int .i64) (Sh.cons (Sh.int .u32) (Sh.fst (Sh.cons (Sh.int .i64) Sh.nil))))))))))))))))) Sh.hnil))))
def F15_0 (v : Int × Int × Int × Int × Int × Int × Int × List Int × List Int × (List (Int × Int × Bool)) × (List (Int × Int)) × (List (List (Int × Int))) × (List (Int × Int × Int × Int × Bool)) × Int × Int × Int × Int) : Option (Bool × Int × Int × Int × Int × Int × Int × List Int × List Int × (List (Int × Int × Bool)) × (List (Int × Int)) × (List (List (Int × Int))) × (List (Int × Int × Int × Int × Bool)) × Int × Int × Int × Int) :=
  bif (decide (v.1 < (0 : Int))) then
    some (true, v.2)
  else
    some ((decide (v.1 ≥ ((v.2.2.2.2.2.2.2.2.2.1).length : Int))), v.2)

noncomputable def k15_0 : List (Known Tryz.prog E) := []
noncomputable def L15_0 (n id : Nat) (st : St G) : Option (Bool × Int × Int × Int × Int × Int × Int × List Int × List Int × (List (Int × Int × Bool)) × (List (Int × Int)) × (List (List (Int × Int))) × (List (Int × Int × Int × Int × Bool)) × Int × Int × Int × Int) := none
set_option maxRecDepth 100000 in
theorem e15_0 (n : Nat) (v : Int × Int × Int × Int × Int × Int × Int × List Int × List Int × (List (Int × Int × Bool)) × (List (Int × Int)) × (List (List (Int × Int))) × (List (Int × Int × Int × Int × Bool)) × Int × Int × Int × Int) : ev Tryz.prog E (oracle k15_0) Tryz.f15.ntmps (fun x => mem x []) (L15_0 n) (finF Tryz.prog E Tryz.f15.results.toList [[(.ptr 0 0 34 [.keep, .keep, .keep, .keep, .keep, .keep, (.ros 22), (.ros 3), (.ros 64), (.ros 24), (.ros 28), (.ros 187), .keep, .keep, .keep, .keep])]] w15_0.alts) 4000 [.code (Tryz.f15.body.getD .skip)] (argSt (v15_0.enc v)) = F15_0 v := by kernel_rfl
theorem ok15_0 : FnOk Tryz.prog E 15 v15_0.enc F15_0 w15_0.enc :=
  fn_known (fn := Tryz.f15) (c := (Tryz.f15.body.getD .skip)) Tryz.func15 (by kernel_rfl) rfl envOk (oracle_ok k15_0) mixed v15_0 F15_0 w15_0 [(.ptr 0 0 34 [.keep, .keep, .keep, .keep, .keep, .keep, (.ros 22), (.ros 3), (.ros 64), (.ros 24), (.ros 28), (.ros 187), .keep, .keep, .keep, .keep])] [[(.ptr 0 0 34 [.keep, .keep, .keep, .keep, .keep, .keep, (.ros 22), (.ros 3), (.ros 64), (.ros 24), (.ros 28), (.ros 187), .keep, .keep, .keep, .keep])]] (by kernel_rfl) [] 4000 L15_0 (by kernel_rfl)
    (fun _ h => nomatch h) (fun v _ h => ⟨0, (e15_0 _ v).trans h⟩) (fun _ => by kernel_rfl) (fun _ => by kernel_rfl) (fun _ _ => by kernel_rfl)
/- slices.IndexFunc[[]int,int] -/
abbrev A36_0 : Type := List Int × Int × Int × Int × Int × Int × Int × List Int × List Int × (List (Int × Int × Bool)) × (List (Int × Int)) × (List (List (Int × Int))) × (List (Int × Int × Int × Int × Bool)) × Int × Int × Int × Int
abbrev R36_0 : Type := Int × Int × Int × Int × Int × Int × Int × List Int × List Int × (List (Int × Int × Bool)) × (List (Int × Int)) × (List (List (Int × Int))) × (List (Int × Int × Int × Int × Bool)) × Int × Int × Int × Int
def v36_0 : Pk G (List Int × Int × Int × Int × Int × Int × Int × List Int × List Int × (List (Int × Int × Bool)) × (List (Int × Int)) × (List (List (Int × Int))) × (List (Int × Int × Int × Int × Bool)) × Int × Int × Int × Int) := (pk (Sh.fst (Sh.cons (Sh.ros 3) (Sh.snd (Sh.cons (Sh.snd (Sh.fn (.func 15) Sh.nil (Sh.snd (Sh.cons (Sh.ptr 0 0) Sh.nil)))) Sh.nil)))) (Sh.fst (Sh.hfix 0 34 (Sh.cons (Sh.int .i64) (Sh.cons (Sh.int .i64) (Sh.cons (Sh.int .i64) (Sh.cons (Sh.int .i64) (Sh.cons (Sh.int .i64) (Sh.cons (Sh.int .i64) (Sh.cons (Sh.ros 22) (Sh.cons (Sh.ros 3) (Sh.cons (Sh.ros 64) (Sh.cons (Sh.ros 24) (Sh.cons (Sh.ros 28) (Sh.cons (Sh.ros 187) (Sh.cons (Sh.int .i64) (Sh.cons (Sh.int .i64) (Sh.cons (Sh.int .u32) (Sh.fst (Sh.cons (Sh.int .i64) Sh.nil))))))))))))))))) Sh.hnil)))
def w36_0 : Wk G (Int × Int × Int × Int × Int × Int × Int × List Int × List Int × (List (Int × Int × Bool)) × (List (Int × Int)) × (List (List (Int × Int))) × (List (Int × Int × Int × Int × Bool)) × Int × Int × Int × Int) := (Wk.one [.keep] (pk (Sh.fst (Sh.cons (Sh.int .i64) Sh.nil)) (Sh.fst (Sh.hfix 0 34 (Sh.cons (Sh.int .i64) (Sh.cons (Sh.int .i64) (Sh.cons (Sh.int .i64) (Sh.cons (Sh.int .i64) (Sh.cons (Sh.int .i64) (Sh.cons (Sh.int .i64) (Sh.cons (Sh.ros 22) (Sh.cons (Sh.ros 3) (Sh.cons (Sh.ros 64) (Sh.cons (Sh.ros 24) (Sh.cons (Sh.ros 28) (Sh.cons (Sh.ros 187) (Sh.cons (Sh.int .i64) (Sh.cons (Sh.int .i64) (Sh.cons (Sh.int .u32) (Sh.fst (Sh.cons (Sh.int .i64) Sh.nil))))))))))))))))) Sh.hnil))))
def c36_0_2 : Pk G ((List Int × Int × Int) × Int × Int × Int × Int × Int × Int × List Int × List Int × (List (Int × Int × Bool)) × (List (Int × Int)) × (List (List (Int × Int))) × (List (Int × Int × Int × Int × Bool)) × Int × Int × Int × Int) := (pk (Sh.cons (Sh.ros 3) (Sh.snd (Sh.cons (Sh.snd (Sh.fn (.func 15) Sh.nil (Sh.snd (Sh.cons (Sh.ptr 0 0) Sh.nil)))) (Sh.cons (Sh.int .i64) (Sh.fst (Sh.cons (Sh.int .i64) Sh.nil)))))) (Sh.fst (Sh.hfix 0 34 (Sh.cons (Sh.int .i64) (Sh.cons (Sh.int .i64) (Sh.cons (Sh.int .i64) (Sh.cons (Sh.int .i64) (Sh.cons (Sh.int .i64) (Sh.cons (Sh.int .i64) (Sh.cons (Sh.ros 22) (Sh.cons (Sh.ros 3) (Sh.cons (Sh.ros 64) (Sh.cons (Sh.ros 24) (Sh.cons (Sh.ros 28) (Sh.cons (Sh.ros 187) (Sh.cons (Sh.int .i64) (Sh.cons (Sh.int .i64) (Sh.cons (Sh.int .u32) (Sh.fst (Sh.cons (Sh.int .i64) Sh.nil))))))))))))))))) Sh.hnil)))
def B36_0_2 (K : (((List Int × Int × Int) × Int × Int × Int × Int × Int × Int × List Int × List Int × (List (Int × Int × Bool)) × (List (Int × Int)) × (List (List (Int × Int))) × (List (Int × Int × Int × Int × Bool)) × Int × Int × Int × Int) → Option (Int × Int × Int × Int × Int × Int × Int × List Int × List Int × (List (Int × Int × Bool)) × (List (Int × Int)) × (List (List (Int × Int))) × (List (Int × Int × Int × Int × Bool)) × Int × Int × Int × Int))) (v : (List Int × Int × Int) × Int × Int × Int × Int × Int × Int × List Int × List Int × (List (Int × Int × Bool)) × (List (Int × Int)) × (List (List (Int × Int))) × (List (Int × Int × Int × Int × Bool)) × Int × Int × Int × Int) : Option (Int × Int × Int × Int × Int × Int × Int × List Int × List Int × (List (Int × Int × Bool)) × (List (Int × Int)) × (List (List (Int × Int))) × (List (Int × Int × Int × Int × Bool)) × Int × Int × Int × Int) :=
  bif (decide (v.1.2.2 < v.1.2.1)) then
    (rdx v.1.1 v.1.2.2).bind fun (x305 : Int) =>
    (F15_0 (x305, v.2)).bind fun r306 =>
    bif r306.1 then
      some (v.1.2.2, r306.2)
    else
      let x307 : Int := (IntKind.wrap .i64 (v.1.2.2 + (1 : Int)))
      K ((v.1.1, (v.1.2.1, x307)), r306.2)
  else
    some ((-1 : Int), v.2)

def E36_0 (K : (((List Int × Int × Int) × Int × Int × Int × Int × Int × Int × List Int × List Int × (List (Int × Int × Bool)) × (List (Int × Int)) × (List (List (Int × Int))) × (List (Int × Int × Int × Int × Bool)) × Int × Int × Int × Int) → Option (Int × Int × Int × Int × Int × Int × Int × List Int × List Int × (List (Int × Int × Bool)) × (List (Int × Int)) × (List (List (Int × Int))) × (List (Int × Int × Int × Int × Bool)) × Int × Int × Int × Int))) (v : List Int × Int × Int × Int × Int × Int × Int × List Int × List Int × (List (Int × Int × Bool)) × (List (Int × Int)) × (List (List (Int × Int))) × (List (Int × Int × Int × Int × Bool)) × Int × Int × Int × Int) : Option (Int × Int × Int × Int × Int × Int × Int × List Int × List Int × (List (Int × Int × Bool)) × (List (Int × Int)) × (List (List (Int × Int))) × (List (Int × Int × Int × Int × Bool)) × Int × Int × Int × Int) :=
  K ((v.1, (((v.1).length : Int), (0 : Int))), v.2)

def K36_0 : Nat → (((List Int × Int × Int) × Int × Int × Int × Int × Int × Int × List Int × List Int × (List (Int × Int × Bool)) × (List (Int × Int)) × (List (List (Int × Int))) × (List (Int × Int × Int × Int × Bool)) × Int × Int × Int × Int) → Option (Int × Int × Int × Int × Int × Int × Int × List Int × List Int × (List (Int × Int × Bool)) × (List (Int × Int)) × (List (List (Int × Int))) × (List (Int × Int × Int × Int × Bool)) × Int × Int × Int × Int))
  | 0 => (fun _ => none)
  | n + 1 => (B36_0_2 (K36_0 n))
def fuel36_0 (v : List Int × Int × Int × Int × Int × Int × Int × List Int × List Int × (List (Int × Int × Bool)) × (List (Int × Int)) × (List (List (Int × Int))) × (List (Int × Int × Int × Int × Bool)) × Int × Int × Int × Int) : Nat := 1300
def F36_0 (v : List Int × Int × Int × Int × Int × Int × Int × List Int × List Int × (List (Int × Int × Bool)) × (List (Int × Int)) × (List (List (Int × Int))) × (List (Int × Int × Int × Int × Bool)) × Int × Int × Int × Int) : Option (Int × Int × Int × Int × Int × Int × Int × List Int × List Int × (List (Int × Int × Bool)) × (List (Int × Int)) × (List (List (Int × Int))) × (List (Int × Int × Int × Int × Bool)) × Int × Int × Int × Int) := E36_0 (K36_0 (fuel36_0 v)) v
noncomputable def k36_0 : List (Known Tryz.prog E) := [Known.of envOk [1, 5] [.keep, (.ptr 0 0 34 [.keep, .keep, .keep, .keep, .keep, .keep, (.ros 22), (.ros 3), (.ros 64), (.ros 24), (.ros 28), (.ros 187), .keep, .keep, .keep, .keep])] v15_0 F15_0 w15_0 ok15_0]
def s36_0_2 : List (Nat × Pat) := [(0, (.ros 3)), (1, (.fn (.func 15) [] [(.ptr 0 0 34 [])])), (7, .keep), (8, .keep)]
noncomputable def L36_0 (n id : Nat) (st : St G) : Option (Int × Int × Int × Int × Int × Int × Int × List Int × List Int × (List (Int × Int × Bool)) × (List (Int × Int)) × (List (List (Int × Int))) × (List (Int × Int × Int × Int × Bool)) × Int × Int × Int × Int) := match Nat.beq id 2 with | true => cutK Tryz.prog s36_0_2 [(.ptr 0 0 34 [.keep, .keep, .keep, .keep, .keep, .keep, (.ros 22), (.ros 3), (.ros 64), (.ros 24), (.ros 28), (.ros 187), .keep, .keep, .keep, .keep])] c36_0_2.dec (K36_0 n) st | false => none
set_option maxRecDepth 100000 in
theorem e36_0 (n : Nat) (v : List Int × Int × Int × Int × Int × Int × Int × List Int × List Int × (List (Int × Int × Bool)) × (List (Int × Int)) × (List (List (Int × Int))) × (List (Int × Int × Int × Int × Bool)) × Int × Int × Int × Int) : ev Tryz.prog E (oracle k36_0) Tryz.f36.ntmps (fun x => mem x [2]) (L36_0 n) (finF Tryz.prog E Tryz.f36.results.toList [[(.ptr 0 0 34 [.keep, .keep, .keep, .keep, .keep, .keep, (.ros 22), (.ros 3), (.ros 64), (.ros 24), (.ros 28), (.ros 187), .keep, .keep, .keep, .keep])]] w36_0.alts) 4000 [.code (Tryz.f36.body.getD .skip)] (argSt (v36_0.enc v)) = E36_0 (K36_0 n) v := by kernel_rfl
set_option maxRecDepth 100000 in
theorem b36_0_2 (n : Nat) (v : (List Int × Int × Int) × Int × Int × Int × Int × Int × Int × List Int × List Int × (List (Int × Int × Bool)) × (List (Int × Int)) × (List (List (Int × Int))) × (List (Int × Int × Int × Int × Bool)) × Int × Int × Int × Int) : evCut Tryz.prog E (oracle k36_0) false 36 Tryz.f36.ntmps (fun x => mem x [2]) (L36_0 n) (finF Tryz.prog E Tryz.f36.results.toList [[(.ptr 0 0 34 [.keep, .keep, .keep, .keep, .keep, .keep, (.ros 22), (.ros 3), (.ros 64), (.ros 24), (.ros 28), (.ros 187), .keep, .keep, .keep, .keep])]] w36_0.alts) 4000 (todoAt (Tryz.f36.body.getD .skip) 2) (cutSt s36_0_2 (c36_0_2.enc v)) = B36_0_2 (K36_0 n) v := by kernel_rfl
theorem ok36_0 : FnOk Tryz.prog E 36 v36_0.enc F36_0 w36_0.enc :=
  fn_known (fn := Tryz.f36) (c := (Tryz.f36.body.getD .skip)) Tryz.func36 (by kernel_rfl) rfl envOk (oracle_ok k36_0) mixed v36_0 F36_0 w36_0 [(.ptr 0 0 34 [.keep, .keep, .keep, .keep, .keep, .keep, (.ros 22), (.ros 3), (.ros 64), (.ros 24), (.ros 28), (.ros 187), .keep, .keep, .keep, .keep])] [[(.ptr 0 0 34 [.keep, .keep, .keep, .keep, .keep, .keep, (.ros 22), (.ros 3), (.ros 64), (.ros 24), (.ros 28), (.ros 187), .keep, .keep, .keep, .keep])]] (by kernel_rfl) [2] 4000 L36_0 (by kernel_rfl)
    (List.forall_mem_cons.2 ⟨⟨_, [(.ptr 0 0 34 [.keep, .keep, .keep, .keep, .keep, .keep, (.ros 22), (.ros 3), (.ros 64), (.ros 24), (.ros 28), (.ros 187), .keep, .keep, .keep, .keep])], s36_0_2, c36_0_2.dec, c36_0_2.enc, fun n => (K36_0 n), c36_0_2.ok, fun _ _ => rfl, fun _ => rfl, by kernel_rfl, fun n v _ h => (b36_0_2 n v).trans h⟩, fun _ h => (nomatch h)⟩) (fun v _ h => ⟨fuel36_0 v, (e36_0 _ v).trans h⟩) (fun _ => by kernel_rfl) (fun _ => by kernel_rfl) (fun _ _ => by kernel_rfl)
/- slices.ContainsFunc[[]int,int] -/
abbrev A19_0 : Type := List Int × Int × Int × Int × Int × Int × Int × List Int × List Int × (List (Int × Int × Bool)) × (List (Int × Int)) × (List (List (Int × Int))) × (List (Int × Int × Int × Int × Bool)) × Int × Int × Int × Int
abbrev R19_0 : Type := Bool × Int × Int × Int × Int × Int × Int × List Int × List Int × (List (Int × Int × Bool)) × (List (Int × Int)) × (List (List (Int × Int))) × (List (Int × Int × Int × Int × Bool)) × Int × Int × Int × Int
def v19_0 : Pk G (List Int × Int × Int × Int × Int × Int × Int × List Int × List Int × (List (Int × Int × Bool)) × (List (Int × Int)) × (List (List (Int × Int))) × (List (Int × Int × Int × Int × Bool)) × Int × Int × Int × Int) := (pk (Sh.fst (Sh.cons (Sh.ros 3) (Sh.snd (Sh.cons (Sh.snd (Sh.fn (.func 15) Sh.nil (Sh.snd (Sh.cons (Sh.ptr 0 0) Sh.nil)))) Sh.nil)))) (Sh.fst (Sh.hfix 0 34 (Sh.cons (Sh.int .i64) (Sh.cons (Sh.int .i64) (Sh.cons (Sh.int .i64) (Sh.cons (Sh.int .i64) (Sh.cons (Sh.int .i64) (Sh.cons (Sh.int .i64) (Sh.cons (Sh.ros 22) (Sh.cons (Sh.ros 3) (Sh.cons (Sh.ros 64) (Sh.cons (Sh.ros 24) (Sh.cons (Sh.ros 28) (Sh.cons (Sh.ros 187) (Sh.cons (Sh.int .i64) (Sh.cons (Sh.int .i64) (Sh.cons (Sh.int .u32) (Sh.fst (Sh.cons (Sh.int .i64) Sh.nil))))))))))))))))) Sh.hnil)))
def w19_0 : Wk G (Bool × Int × Int × Int × Int × Int × Int × List Int × List Int × (List (Int × Int × Bool)) × (List (Int × Int)) × (List (List (Int × Int))) × (List (Int × Int × Int × Int × Bool)) × Int × Int × Int × Int) := (Wk.one [.keep] (pk (Sh.fst (Sh.cons Sh.bool Sh.nil)) (Sh.fst (Sh.hfix 0 34 (Sh.cons (Sh.int .i64) (Sh.cons (Sh.int .i64) (Sh.cons (Sh.int .i64) (Sh.cons (Sh.int .i64) (Sh.cons (Sh.int .i64) (Sh.cons (Sh.int .i64) (Sh.cons (Sh.ros 22) (Sh.cons (Sh.ros 3) (Sh.cons (Sh.ros 64) (Sh.cons (Sh.ros 24) (Sh.cons (Sh.ros 28) (Sh.cons (Sh.ros 187) (Sh.cons (Sh.int .i64) (Sh.cons (Sh.int .i64) (Sh.cons (Sh.int .u32) (Sh.fst (Sh.cons (Sh.int .i64) Sh.nil))))))))))))))))) Sh.hnil))))
def F19_0 (v : List Int × Int × Int × Int × Int × Int × Int × List Int × List Int × (List (Int × Int × Bool)) × (List (Int × Int)) × (List (List (Int × Int))) × (List (Int × Int × Int × Int × Bool)) × Int × Int × Int × Int) : Option (Bool × Int × Int × Int × Int × Int × Int × List Int × List Int × (List (Int × Int × Bool)) × (List (Int × Int)) × (List (List (Int × Int))) × (List (Int × Int × Int × Int × Bool)) × Int × Int × Int × Int) :=
  (F36_0 v).bind fun r310 =>
  some ((decide (r310.1 ≥ (0 : Int))), r310.2)

noncomputable def k19_0 : List (Known Tryz.prog E) := [Known.of envOk [7, 115] [(.ros 3), (.fn (.func 15) [] [(.ptr 0 0 34 [.keep, .keep, .keep, .keep, .keep, .keep, (.ros 22), (.ros 3), (.ros 64), (.ros 24), (.ros 28), (.ros 187), .keep, .keep, .keep, .keep])])] v36_0 F36_0 w36_0 ok36_0]
noncomputable def L19_0 (n id : Nat) (st : St G) : Option (Bool × Int × Int × Int × Int × Int × Int × List Int × List Int × (List (Int × Int × Bool)) × (List (Int × Int)) × (List (List (Int × Int))) × (List (Int × Int × Int × Int × Bool)) × Int × Int × Int × Int) := none
set_option maxRecDepth 100000 in
theorem e19_0 (n : Nat) (v : List Int × Int × Int × Int × Int × Int × Int × List Int × List Int × (List (Int × Int × Bool)) × (List (Int × Int)) × (List (List (Int × Int))) × (List (Int × Int × Int × Int × Bool)) × Int × Int × Int × Int) : ev Tryz.prog E (oracle k19_0) Tryz.f19.ntmps (fun x => mem x []) (L19_0 n) (finF Tryz.prog E Tryz.f19.results.toList [[(.ptr 0 0 34 [.keep, .keep, .keep, .keep, .keep, .keep, (.ros 22), (.ros 3), (.ros 64), (.ros 24), (.ros 28), (.ros 187), .keep, .keep, .keep, .keep])]] w19_0.alts) 4000 [.code (Tryz.f19.body.getD .skip)] (argSt (v19_0.enc v)) = F19_0 v := by kernel_rfl
theorem ok19_0 : FnOk Tryz.prog E 19 v19_0.enc F19_0 w19_0.enc :=
  fn_known (fn := Tryz.f19) (c := (Tryz.f19.body.getD .skip)) Tryz.func19 (by kernel_rfl) rfl envOk (oracle_ok k19_0) mixed v19_0 F19_0 w19_0 [(.ptr 0 0 34 [.keep, .keep, .keep, .keep, .keep, .keep, (.ros 22), (.ros 3), (.ros 64), (.ros 24), (.ros 28), (.ros 187), .keep, .keep, .keep, .keep])] [[(.ptr 0 0 34 [.keep, .keep, .keep, .keep, .keep, .keep, (.ros 22), (.ros 3), (.ros 64), (.ros 24), (.ros 28), (.ros 187), .keep, .keep, .keep, .keep])]] (by kernel_rfl) [] 4000 L19_0 (by kernel_rfl)
    (fun _ h => nomatch h) (fun v _ h => ⟨0, (e19_0 _ v).trans h⟩) (fun _ => by kernel_rfl) (fun _ => by kernel_rfl) (fun _ _ => by kernel_rfl)
/- slices.IndexFunc[[]int,int] -/
abbrev A36_1 : Type := (Int × Int × Int × Int × Int × Int × List Int × List Int × (List (Int × Int × Bool)) × (List (Int × Int)) × (List (List (Int × Int))) × (List (Int × Int × Int × Int × Bool)) × Int × Int × Int × Int) × List Int
abbrev R36_1 : Type := Int × (Int × Int × Int × Int × Int × Int × List Int × List Int × (List (Int × Int × Bool)) × (List (Int × Int)) × (List (List (Int × Int))) × (List (Int × Int × Int × Int × Bool)) × Int × Int × Int × Int) × List Int
def v36_1 : Pk G ((Int × Int × Int × Int × Int × Int × List Int × List Int × (List (Int × Int × Bool)) × (List (Int × Int)) × (List (List (Int × Int))) × (List (Int × Int × Int × Int × Bool)) × Int × Int × Int × Int) × List Int) := (Pk.snd (pk (Sh.snd (Sh.cons (Sh.osl 0) (Sh.snd (Sh.cons (Sh.snd (Sh.fn (.func 15) Sh.nil (Sh.snd (Sh.cons (Sh.ptr 1 0) Sh.nil)))) Sh.nil)))) (Sh.hfix 1 34 (Sh.cons (Sh.int .i64) (Sh.cons (Sh.int .i64) (Sh.cons (Sh.int .i64) (Sh.cons (Sh.int .i64) (Sh.cons (Sh.int .i64) (Sh.cons (Sh.int .i64) (Sh.cons (Sh.ros 22) (Sh.cons (Sh.ros 3) (Sh.cons (Sh.ros 64) (Sh.cons (Sh.ros 24) (Sh.cons (Sh.ros 28) (Sh.cons (Sh.ros 187) (Sh.cons (Sh.int .i64) (Sh.cons (Sh.int .i64) (Sh.cons (Sh.int .u32) (Sh.fst (Sh.cons (Sh.int .i64) Sh.nil))))))))))))))))) (Sh.fst (Sh.hrow 0 3 Sh.hnil)))))
def w36_1 : Wk G (Int × (Int × Int × Int × Int × Int × Int × List Int × List Int × (List (Int × Int × Bool)) × (List (Int × Int)) × (List (List (Int × Int))) × (List (Int × Int × Int × Int × Bool)) × Int × Int × Int × Int) × List Int) := (Wk.one [.keep] (pk (Sh.fst (Sh.cons (Sh.int .i64) Sh.nil)) (Sh.hfix 1 34 (Sh.cons (Sh.int .i64) (Sh.cons (Sh.int .i64) (Sh.cons (Sh.int .i64) (Sh.cons (Sh.int .i64) (Sh.cons (Sh.int .i64) (Sh.cons (Sh.int .i64) (Sh.cons (Sh.ros 22) (Sh.cons (Sh.ros 3) (Sh.cons (Sh.ros 64) (Sh.cons (Sh.ros 24) (Sh.cons (Sh.ros 28) (Sh.cons (Sh.ros 187) (Sh.cons (Sh.int .i64) (Sh.cons (Sh.int .i64) (Sh.cons (Sh.int .u32) (Sh.fst (Sh.cons (Sh.int .i64) Sh.nil))))))))))))))))) (Sh.fst (Sh.hrow 0 3 Sh.hnil)))))
def c36_1_2 : Pk G ((Int × Int) × (Int × Int × Int × Int × Int × Int × List Int × List Int × (List (Int × Int × Bool)) × (List (Int × Int)) × (List (List (Int × Int))) × (List (Int × Int × Int × Int × Bool)) × Int × Int × Int × Int) × List Int) := (pk (Sh.snd (Sh.cons (Sh.osl 0) (Sh.snd (Sh.cons (Sh.snd (Sh.fn (.func 15) Sh.nil (Sh.snd (Sh.cons (Sh.ptr 1 0) Sh.nil)))) (Sh.cons (Sh.int .i64) (Sh.fst (Sh.cons (Sh.int .i64) Sh.nil))))))) (Sh.hfix 1 34 (Sh.cons (Sh.int .i64) (Sh.cons (Sh.int .i64) (Sh.cons (Sh.int .i64) (Sh.cons (Sh.int .i64) (Sh.cons (Sh.int .i64) (Sh.cons (Sh.int .i64) (Sh.cons (Sh.ros 22) (Sh.cons (Sh.ros 3) (Sh.cons (Sh.ros 64) (Sh.cons (Sh.ros 24) (Sh.cons (Sh.ros 28) (Sh.cons (Sh.ros 187) (Sh.cons (Sh.int .i64) (Sh.cons (Sh.int .i64) (Sh.cons (Sh.int .u32) (Sh.fst (Sh.cons (Sh.int .i64) Sh.nil))))))))))))))))) (Sh.fst (Sh.hrow 0 3 Sh.hnil))))
def B36_1_2 (K : (((Int × Int) × (Int × Int × Int × Int × Int × Int × List Int × List Int × (List (Int × Int × Bool)) × (List (Int × Int)) × (List (List (Int × Int))) × (List (Int × Int × Int × Int × Bool)) × Int × Int × Int × Int) × List Int) → Option (Int × (Int × Int × Int × Int × Int × Int × List Int × List Int × (List (Int × Int × Bool)) × (List (Int × Int)) × (List (List (Int × Int))) × (List (Int × Int × Int × Int × Bool)) × Int × Int × Int × Int) × List Int))) (v : (Int × Int) × (Int × Int × Int × Int × Int × Int × List Int × List Int × (List (Int × Int × Bool)) × (List (Int × Int)) × (List (List (Int × Int))) × (List (Int × Int × Int × Int × Bool)) × Int × Int × Int × Int) × List Int) : Option (Int × (Int × Int × Int × Int × Int × Int × List Int × List Int × (List (Int × Int × Bool)) × (List (Int × Int)) × (List (List (Int × Int))) × (List (Int × Int × Int × Int × Bool)) × Int × Int × Int × Int) × List Int) :=
  bif (decide (v.1.2 < v.1.1)) then
    (idx v.1.2 (v.2.2).length).bind fun (x321 : Nat) =>
    ((v.2.2)[x321]?).bind fun (x322 : Int) =>
    (F15_0 (x322, v.2.1)).bind fun r323 =>
    bif r323.1 then
      some (v.1.2, (r323.2, v.2.2))
    else
      let x324 : Int := (IntKind.wrap .i64 (v.1.2 + (1 : Int)))
      K ((v.1.1, x324), (r323.2, v.2.2))
  else
    some ((-1 : Int), v.2)

def E36_1 (K : (((Int × Int) × (Int × Int × Int × Int × Int × Int × List Int × List Int × (List (Int × Int × Bool)) × (List (Int × Int)) × (List (List (Int × Int))) × (List (Int × Int × Int × Int × Bool)) × Int × Int × Int × Int) × List Int) → Option (Int × (Int × Int × Int × Int × Int × Int × List Int × List Int × (List (Int × Int × Bool)) × (List (Int × Int)) × (List (List (Int × Int))) × (List (Int × Int × Int × Int × Bool)) × Int × Int × Int × Int) × List Int))) (v : (Int × Int × Int × Int × Int × Int × List Int × List Int × (List (Int × Int × Bool)) × (List (Int × Int)) × (List (List (Int × Int))) × (List (Int × Int × Int × Int × Bool)) × Int × Int × Int × Int) × List Int) : Option (Int × (Int × Int × Int × Int × Int × Int × List Int × List Int × (List (Int × Int × Bool)) × (List (Int × Int)) × (List (List (Int × Int))) × (List (Int × Int × Int × Int × Bool)) × Int × Int × Int × Int) × List Int) :=
  K ((((v.2).length : Int), (0 : Int)), v)

def K36_1 : Nat → (((Int × Int) × (Int × Int × Int × Int × Int × Int × List Int × List Int × (List (Int × Int × Bool)) × (List (Int × Int)) × (List (List (Int × Int))) × (List (Int × Int × Int × Int × Bool)) × Int × Int × Int × Int) × List Int) → Option (Int × (Int × Int × Int × Int × Int × Int × List Int × List Int × (List (Int × Int × Bool)) × (List (Int × Int)) × (List (List (Int × Int))) × (List (Int × Int × Int × Int × Bool)) × Int × Int × Int × Int) × List Int))
  | 0 => (fun _ => none)
  | n + 1 => (B36_1_2 (K36_1 n))
def fuel36_1 (v : (Int × Int × Int × Int × Int × Int × List Int × List Int × (List (Int × Int × Bool)) × (List (Int × Int)) × (List (List (Int × Int))) × (List (Int × Int × Int × Int × Bool)) × Int × Int × Int × Int) × List Int) : Nat := 1300
def F36_1 (v : (Int × Int × Int × Int × Int × Int × List Int × List Int × (List (Int × Int × Bool)) × (List (Int × Int)) × (List (List (Int × Int))) × (List (Int × Int × Int × Int × Bool)) × Int × Int × Int × Int) × List Int) : Option (Int × (Int × Int × Int × Int × Int × Int × List Int × List Int × (List (Int × Int × Bool)) × (List (Int × Int)) × (List (List (Int × Int))) × (List (Int × Int × Int × Int × Bool)) × Int × Int × Int × Int) × List Int) := E36_1 (K36_1 (fuel36_1 v)) v
noncomputable def k36_1 : List (Known Tryz.prog E) := [Known.of envOk [1, 5] [.keep, (.ptr 0 0 34 [.keep, .keep, .keep, .keep, .keep, .keep, (.ros 22), (.ros 3), (.ros 64), (.ros 24), (.ros 28), (.ros 187), .keep, .keep, .keep, .keep])] v15_0 F15_0 w15_0 ok15_0]
def s36_1_2 : List (Nat × Pat) := [(0, (.own 0 3)), (1, (.fn (.func 15) [] [(.ptr 1 0 34 [])])), (7, .keep), (8, .keep)]
noncomputable def L36_1 (n id : Nat) (st : St G) : Option (Int × (Int × Int × Int × Int × Int × Int × List Int × List Int × (List (Int × Int × Bool)) × (List (Int × Int)) × (List (List (Int × Int))) × (List (Int × Int × Int × Int × Bool)) × Int × Int × Int × Int) × List Int) := match Nat.beq id 2 with | true => cutK Tryz.prog s36_1_2 [(.own 0 3), (.ptr 1 0 34 [.keep, .keep, .keep, .keep, .keep, .keep, (.ros 22), (.ros 3), (.ros 64), (.ros 24), (.ros 28), (.ros 187), .keep, .keep, .keep, .keep])] c36_1_2.dec (K36_1 n) st | false => none
set_option maxRecDepth 100000 in
theorem e36_1 (n : Nat) (v : (Int × Int × Int × Int × Int × Int × List Int × List Int × (List (Int × Int × Bool)) × (List (Int × Int)) × (List (List (Int × Int))) × (List (Int × Int × Int × Int × Bool)) × Int × Int × Int × Int) × List Int) : ev Tryz.prog E (oracle k36_1) Tryz.f36.ntmps (fun x => mem x [2]) (L36_1 n) (finF Tryz.prog E Tryz.f36.results.toList [[(.own 0 3), (.ptr 1 0 34 [.keep, .keep, .keep, .keep, .keep, .keep, (.ros 22), (.ros 3), (.ros 64), (.ros 24), (.ros 28), (.ros 187), .keep, .keep, .keep, .keep])]] w36_1.alts) 4000 [.code (Tryz.f36.body.getD .skip)] (argSt (v36_1.enc v)) = E36_1 (K36_1 n) v := by kernel_rfl
set_option maxRecDepth 100000 in
theorem b36_1_2 (n : Nat) (v : (Int × Int) × (Int × Int × Int × Int × Int × Int × List Int × List Int × (List (Int × Int × Bool)) × (List (Int × Int)) × (List (List (Int × Int))) × (List (Int × Int × Int × Int × Bool)) × Int × Int × Int × Int) × List Int) : evCut Tryz.prog E (oracle k36_1) false 36 Tryz.f36.ntmps (fun x => mem x [2]) (L36_1 n) (finF Tryz.prog E Tryz.f36.results.toList [[(.own 0 3), (.ptr 1 0 34 [.keep, .keep, .keep, .keep, .keep, .keep, (.ros 22), (.ros 3), (.ros 64), (.ros 24), (.ros 28), (.ros 187), .keep, .keep, .keep, .keep])]] w36_1.alts) 4000 (todoAt (Tryz.f36.body.getD .skip) 2) (cutSt s36_1_2 (c36_1_2.enc v)) = B36_1_2 (K36_1 n) v := by kernel_rfl
theorem ok36_1 : FnOk Tryz.prog E 36 v36_1.enc F36_1 w36_1.enc :=
  fn_known (fn := Tryz.f36) (c := (Tryz.f36.body.getD .skip)) Tryz.func36 (by kernel_rfl) rfl envOk (oracle_ok k36_1) mixed v36_1 F36_1 w36_1 [(.own 0 3), (.ptr 1 0 34 [.keep, .keep, .keep, .keep, .keep, .keep, (.ros 22), (.ros 3), (.ros 64), (.ros 24), (.ros 28), (.ros 187), .keep, .keep, .keep, .keep])] [[(.own 0 3), (.ptr 1 0 34 [.keep, .keep, .keep, .keep, .keep, .keep, (.ros 22), (.ros 3), (.ros 64), (.ros 24), (.ros 28), (.ros 187), .keep, .keep, .keep, .keep])]] (by kernel_rfl) [2] 4000 L36_1 (by kernel_rfl)
    (List.forall_mem_cons.2 ⟨⟨_, [(.own 0 3), (.ptr 1 0 34 [.keep, .keep, .keep, .keep, .keep, .keep, (.ros 22), (.ros 3), (.ros 64), (.ros 24), (.ros 28), (.ros 187), .keep, .keep, .keep, .keep])], s36_1_2, c36_1_2.dec, c36_1_2.enc, fun n => (K36_1 n), c36_1_2.ok, fun _ _ => rfl, fun _ => rfl, by kernel_rfl, fun n v _ h => (b36_1_2 n v).trans h⟩, fun _ h => (nomatch h)⟩) (fun v _ h => ⟨fuel36_1 v, (e36_1 _ v).trans h⟩) (fun _ => by kernel_rfl) (fun _ => by kernel_rfl) (fun _ _ => by kernel_rfl)
/- slices.ContainsFunc[[]int,int] -/
abbrev A19_1 : Type := (Int × Int × Int × Int × Int × Int × List Int × List Int × (List (Int × Int × Bool)) × (List (Int × Int)) × (List (List (Int × Int))) × (List (Int × Int × Int × Int × Bool)) × Int × Int × Int × Int) × List Int
abbrev R19_1 : Type := Bool × (Int × Int × Int × Int × Int × Int × List Int × List Int × (List (Int × Int × Bool)) × (List (Int × Int)) × (List (List (Int × Int))) × (List (Int × Int × Int × Int × Bool)) × Int × Int × Int × Int) × List Int
def v19_1 : Pk G ((Int × Int × Int × Int × Int × Int × List Int × List Int × (List (Int × Int × Bool)) × (List (Int × Int)) × (List (List (Int × Int))) × (List (Int × Int × Int × Int × Bool)) × Int × Int × Int × Int) × List Int) := (Pk.snd (pk (Sh.snd (Sh.cons (Sh.osl 0) (Sh.snd (Sh.cons (Sh.snd (Sh.fn (.func 15) Sh.nil (Sh.snd (Sh.cons (Sh.ptr 1 0) Sh.nil)))) Sh.nil)))) (Sh.hfix 1 34 (Sh.cons (Sh.int .i64) (Sh.cons (Sh.int .i64) (Sh.cons (Sh.int .i64) (Sh.cons (Sh.int .i64) (Sh.cons (Sh.int .i64) (Sh.cons (Sh.int .i64) (Sh.cons (Sh.ros 22) (Sh.cons (Sh.ros 3) (Sh.cons (Sh.ros 64) (Sh.cons (Sh.ros 24) (Sh.cons (Sh.ros 28) (Sh.cons (Sh.ros 187) (Sh.cons (Sh.int .i64) (Sh.cons (Sh.int .i64) (Sh.cons (Sh.int .u32) (Sh.fst (Sh.cons (Sh.int .i64) Sh.nil))))))))))))))))) (Sh.fst (Sh.hrow 0 3 Sh.hnil)))))
def w19_1 : Wk G (Bool × (Int × Int × Int × Int × Int × Int × List Int × List Int × (List (Int × Int × Bool)) × (List (Int × Int)) × (List (List (Int × Int))) × (List (Int × Int × Int × Int × Bool)) × Int × Int × Int × Int) × List Int) := (Wk.one [.keep] (pk (Sh.fst (Sh.cons Sh.bool Sh.nil)) (Sh.hfix 1 34 (Sh.cons (Sh.int .i64) (Sh.cons (Sh.int .i64) (Sh.cons (Sh.int .i64) (Sh.cons (Sh.int .i64) (Sh.cons (Sh.int .i64) (Sh.cons (Sh.int .i64) (Sh.cons (Sh.ros 22) (Sh.cons (Sh.ros 3) (Sh.cons (Sh.ros 64) (Sh.cons (Sh.ros 24) (Sh.cons (Sh.ros 28) (Sh.cons (Sh.ros 187) (Sh.cons (Sh.int .i64) (Sh.cons (Sh.int .i64) (Sh.cons (Sh.int .u32) (Sh.fst (Sh.cons (Sh.int .i64) Sh.nil))))))))))))))))) (Sh.fst (Sh.hrow 0 3 Sh.hnil)))))
def F19_1 (v : (Int × Int × Int × Int × Int × Int × List Int × List Int × (List (Int × Int × Bool)) × (List (Int × Int)) × (List (List (Int × Int))) × (List (Int × Int × Int × Int × Bool)) × Int × Int × Int × Int) × List Int) : Option (Bool × (Int × Int × Int × Int × Int × Int × List Int × List Int × (List (Int × Int × Bool)) × (List (Int × Int)) × (List (List (Int × Int))) × (List (Int × Int × Int × Int × Bool)) × Int × Int × Int × Int) × List Int) :=
  (F36_1 v).bind fun r327 =>
  some ((decide (r327.1 ≥ (0 : Int))), r327.2)

noncomputable def k19_1 : List (Known Tryz.prog E) := [Known.of envOk [7, 115] [(.own 0 3), (.fn (.func 15) [] [(.ptr 1 0 34 [.keep, .keep, .keep, .keep, .keep, .keep, (.ros 22), (.ros 3), (.ros 64), (.ros 24), (.ros 28), (.ros 187), .keep, .keep, .keep, .keep])])] v36_1 F36_1 w36_1 ok36_1]
noncomputable def L19_1 (n id : Nat) (st : St G) : Option (Bool × (Int × Int × Int × Int × Int × Int × List Int × List Int × (List (Int × Int × Bool)) × (List (Int × Int)) × (List (List (Int × Int))) × (List (Int × Int × Int × Int × Bool)) × Int × Int × Int × Int) × List Int) := none
set_option maxRecDepth 100000 in
theorem e19_1 (n : Nat) (v : (Int × Int × Int × Int × Int × Int × List Int × List Int × (List (Int × Int × Bool)) × (List (Int × Int)) × (List (List (Int × Int))) × (List (Int × Int × Int × Int × Bool)) × Int × Int × Int × Int) × List Int) : ev Tryz.prog E (oracle k19_1) Tryz.f19.ntmps (fun x => mem x []) (L19_1 n) (finF Tryz.prog E Tryz.f19.results.toList [[(.own 0 3), (.ptr 1 0 34 [.keep, .keep, .keep, .keep, .keep, .keep, (.ros 22), (.ros 3), (.ros 64), (.ros 24), (.ros 28), (.ros 187), .keep, .keep, .keep, .keep])]] w19_1.alts) 4000 [.code (Tryz.f19.body.getD .skip)] (argSt (v19_1.enc v)) = F19_1 v := by kernel_rfl
theorem ok19_1 : FnOk Tryz.prog E 19 v19_1.enc F19_1 w19_1.enc :=
  fn_known (fn := Tryz.f19) (c := (Tryz.f19.body.getD .skip)) Tryz.func19 (by kernel_rfl) rfl envOk (oracle_ok k19_1) mixed v19_1 F19_1 w19_1 [(.own 0 3), (.ptr 1 0 34 [.keep, .keep, .keep, .keep, .keep, .keep, (.ros 22), (.ros 3), (.ros 64), (.ros 24), (.ros 28), (.ros 187), .keep, .keep, .keep, .keep])] [[(.own 0 3), (.ptr 1 0 34 [.keep, .keep, .keep, .keep, .keep, .keep, (.ros 22), (.ros 3), (.ros 64), (.ros 24), (.ros 28), (.ros 187), .keep, .keep, .keep, .keep])]] (by kernel_rfl) [] 4000 L19_1 (by kernel_rfl)
    (fun _ h => nomatch h) (fun v _ h => ⟨0, (e19_1 _ v).trans h⟩) (fun _ => by kernel_rfl) (fun _ => by kernel_rfl) (fun _ _ => by kernel_rfl)
/- chicane/field.New$2 -/
abbrev A16_0 : Type := Int × Int × Bool
abbrev R16_0 : Type := Bool
def v16_0 : Pk G (Int × Int × Bool) := (Pk.fst (pk (Sh.fst (Sh.cons (Sh.agg (Sh.cons (Sh.int .i64) (Sh.cons (Sh.int .i64) (Sh.fst (Sh.cons Sh.bool Sh.nil))))) Sh.nil)) Sh.hnil))
def w16_0 : Wk G Bool := (Wk.one [.keep] (Pk.fst (pk (Sh.fst (Sh.cons Sh.bool Sh.nil)) Sh.hnil)))
def F16_0 (v : Int × Int × Bool) : Option Bool :=
  let x333 : Int := (if v.2.1 < v.1 then v.2.1 else v.1)
  bif (decide (x333 < (0 : Int))) then
    some (true)
  else
    bif (decide (v.1 > (8589934592 : Int))) then
      some (true)
    else
      some (decide (v.2.1 > (4294967296 : Int)))

noncomputable def k16_0 : List (Known Tryz.prog E) := []
noncomputable def L16_0 (n id : Nat) (st : St G) : Option Bool := none
set_option maxRecDepth 100000 in
theorem e16_0 (n : Nat) (v : Int × Int × Bool) : ev Tryz.prog E (oracle k16_0) Tryz.f16.ntmps (fun x => mem x []) (L16_0 n) (finF Tryz.prog E Tryz.f16.results.toList [[]] w16_0.alts) 4000 [.code (Tryz.f16.body.getD .skip)] (argSt (v16_0.enc v)) = F16_0 v := by kernel_rfl
theorem ok16_0 : FnOk Tryz.prog E 16 v16_0.enc F16_0 w16_0.enc :=
  fn_known (fn := Tryz.f16) (c := (Tryz.f16.body.getD .skip)) Tryz.func16 (by kernel_rfl) rfl envOk (oracle_ok k16_0) mixed v16_0 F16_0 w16_0 [] [[]] (by kernel_rfl) [] 4000 L16_0 (by kernel_rfl)
    (fun _ h => nomatch h) (fun v _ h => ⟨0, (e16_0 _ v).trans h⟩) (fun _ => by kernel_rfl) (fun _ => by kernel_rfl) (fun _ _ => by kernel_rfl)
/- slices.IndexFunc[[]chicane/api.Kind,chicane/api.Kind] -/
abbrev A37_0 : Type := List (Int × Int × Bool)
abbrev R37_0 : Type := Int
def v37_0 : Pk G (List (Int × Int × Bool)) := (Pk.fst (pk (Sh.fst (Sh.cons (Sh.ros 64) (Sh.snd (Sh.cons (Sh.snd (Sh.fn (.func 16) Sh.nil Sh.nil)) Sh.nil)))) Sh.hnil))
def w37_0 : Wk G Int := (Wk.one [.keep] (Pk.fst (pk (Sh.fst (Sh.cons (Sh.int .i64) Sh.nil)) Sh.hnil)))
def c37_0_2 : Pk G ((List (Int × Int × Bool)) × Int × Int) := (Pk.fst (pk (Sh.cons (Sh.ros 64) (Sh.snd (Sh.cons (Sh.snd (Sh.fn (.func 16) Sh.nil Sh.nil)) (Sh.cons (Sh.int .i64) (Sh.fst (Sh.cons (Sh.int .i64) Sh.nil)))))) Sh.hnil))
def B37_0_2 (K : (((List (Int × Int × Bool)) × Int × Int) → Option Int)) (v : (List (Int × Int × Bool)) × Int × Int) : Option Int :=
  bif (decide (v.2.2 < v.2.1)) then
    (rdx v.1 v.2.2).bind fun (x340 : Int × Int × Bool) =>
    (F16_0 x340).bind fun r341 =>
    bif r341 then
      some (v.2.2)
    else
      let x342 : Int := (IntKind.wrap .i64 (v.2.2 + (1 : Int)))
      K (v.1, (v.2.1, x342))
  else
    some (-1 : Int)

def E37_0 (K : (((List (Int × Int × Bool)) × Int × Int) → Option Int)) (v : List (Int × Int × Bool)) : Option Int :=
  K (v, (((v).length : Int), (0 : Int)))

def K37_0 : Nat → (((List (Int × Int × Bool)) × Int × Int) → Option Int)
  | 0 => (fun _ => none)
  | n + 1 => (B37_0_2 (K37_0 n))
def fuel37_0 (v : List (Int × Int × Bool)) : Nat := 1000
def F37_0 (v : List (Int × Int × Bool)) : Option Int := E37_0 (K37_0 (fuel37_0 v)) v
noncomputable def k37_0 : List (Known Tryz.prog E) := [Known.of envOk [9] [(.agg [.keep, .keep, .keep])] v16_0 F16_0 w16_0 ok16_0]
def s37_0_2 : List (Nat × Pat) := [(0, (.ros 64)), (1, (.fn (.func 16) [] [])), (7, .keep), (8, .keep)]
noncomputable def L37_0 (n id : Nat) (st : St G) : Option Int := match Nat.beq id 2 with | true => cutK Tryz.prog s37_0_2 [] c37_0_2.dec (K37_0 n) st | false => none
set_option maxRecDepth 100000 in
theorem e37_0 (n : Nat) (v : List (Int × Int × Bool)) : ev Tryz.prog E (oracle k37_0) Tryz.f37.ntmps (fun x => mem x [2]) (L37_0 n) (finF Tryz.prog E Tryz.f37.results.toList [[]] w37_0.alts) 4000 [.code (Tryz.f37.body.getD .skip)] (argSt (v37_0.enc v)) = E37_0 (K37_0 n) v := by kernel_rfl
set_option maxRecDepth 100000 in
theorem b37_0_2 (n : Nat) (v : (List (Int × Int × Bool)) × Int × Int) : evCut Tryz.prog E (oracle k37_0) false 37 Tryz.f37.ntmps (fun x => mem x [2]) (L37_0 n) (finF Tryz.prog E Tryz.f37.results.toList [[]] w37_0.alts) 4000 (todoAt (Tryz.f37.body.getD .skip) 2) (cutSt s37_0_2 (c37_0_2.enc v)) = B37_0_2 (K37_0 n) v := by kernel_rfl
theorem ok37_0 : FnOk Tryz.prog E 37 v37_0.enc F37_0 w37_0.enc :=
  fn_known (fn := Tryz.f37) (c := (Tryz.f37.body.getD .skip)) Tryz.func37 (by kernel_rfl) rfl envOk (oracle_ok k37_0) mixed v37_0 F37_0 w37_0 [] [[]] (by kernel_rfl) [2] 4000 L37_0 (by kernel_rfl)
    (List.forall_mem_cons.2 ⟨⟨_, [], s37_0_2, c37_0_2.dec, c37_0_2.enc, fun n => (K37_0 n), c37_0_2.ok, fun _ _ => rfl, fun _ => rfl, by kernel_rfl, fun n v _ h => (b37_0_2 n v).trans h⟩, fun _ h => (nomatch h)⟩) (fun v _ h => ⟨fuel37_0 v, (e37_0 _ v).trans h⟩) (fun _ => by kernel_rfl) (fun _ => by kernel_rfl) (fun _ _ => by kernel_rfl)
/- slices.ContainsFunc[[]chicane/api.Kind,chicane/api.Kind] -/
abbrev A20_0 : Type := List (Int × Int × Bool)
abbrev R20_0 : Type := Bool
def v20_0 : Pk G (List (Int × Int × Bool)) := (Pk.fst (pk (Sh.fst (Sh.cons (Sh.ros 64) (Sh.snd (Sh.cons (Sh.snd (Sh.fn (.func 16) Sh.nil Sh.nil)) Sh.nil)))) Sh.hnil))
def w20_0 : Wk G Bool := (Wk.one [.keep] (Pk.fst (pk (Sh.fst (Sh.cons Sh.bool Sh.nil)) Sh.hnil)))
def F20_0 (v : List (Int × Int × Bool)) : Option Bool :=
  (F37_0 v).bind fun r345 =>
  some (decide (r345 ≥ (0 : Int)))

noncomputable def k20_0 : List (Known Tryz.prog E) := [Known.of envOk [7, 116] [(.ros 64), (.fn (.func 16) [] [])] v37_0 F37_0 w37_0 ok37_0]
noncomputable def L20_0 (n id : Nat) (st : St G) : Option Bool := none
set_option maxRecDepth 100000 in
theorem e20_0 (n : Nat) (v : List (Int × Int × Bool)) : ev Tryz.prog E (oracle k20_0) Tryz.f20.ntmps (fun x => mem x []) (L20_0 n) (finF Tryz.prog E Tryz.f20.results.toList [[]] w20_0.alts) 4000 [.code (Tryz.f20.body.getD .skip)] (argSt (v20_0.enc v)) = F20_0 v := by kernel_rfl
theorem ok20_0 : FnOk Tryz.prog E 20 v20_0.enc F20_0 w20_0.enc :=
  fn_known (fn := Tryz.f20) (c := (Tryz.f20.body.getD .skip)) Tryz.func20 (by kernel_rfl) rfl envOk (oracle_ok k20_0) mixed v20_0 F20_0 w20_0 [] [[]] (by kernel_rfl) [] 4000 L20_0 (by kernel_rfl)
    (fun _ h => nomatch h) (fun v _ h => ⟨0, (e20_0 _ v).trans h⟩) (fun _ => by kernel_rfl) (fun _ => by kernel_rfl) (fun _ _ => by kernel_rfl)
/- chicane/field.New -/
abbrev A6_0 : Type := Int × Int × Int × Int × Int × Int × List Int × List Int × (List (Int × Int × Bool)) × (List (Int × Int)) × (List (List (Int × Int))) × (List (Int × Int × Int × Int × Bool)) × Int × Int × Int × Int
abbrev R6_0 : Type := Int ⊕ (Int × (Int × Int × Int × Int × Int) × List Int × List Int)
def v6_0 : Pk G (Int × Int × Int × Int × Int × Int × List Int × List Int × (List (Int × Int × Bool)) × (List (Int × Int)) × (List (List (Int × Int))) × (List (Int × Int × Int × Int × Bool)) × Int × Int × Int × Int) := (Pk.fst (pk (Sh.fst (Sh.cons (Sh.agg (Sh.cons (Sh.int .i64) (Sh.cons (Sh.int .i64) (Sh.cons (Sh.int .i64) (Sh.cons (Sh.int .i64) (Sh.cons (Sh.int .i64) (Sh.cons (Sh.int .i64) (Sh.cons (Sh.ros 22) (Sh.cons (Sh.ros 3) (Sh.cons (Sh.ros 64) (Sh.cons (Sh.ros 24) (Sh.cons (Sh.ros 28) (Sh.cons (Sh.ros 187) (Sh.cons (Sh.int .i64) (Sh.cons (Sh.int .i64) (Sh.cons (Sh.int .u32) (Sh.fst (Sh.cons (Sh.int .i64) Sh.nil)))))))))))))))))) Sh.nil)) Sh.hnil))
def w6_0 : Wk G (Int ⊕ (Int × (Int × Int × Int × Int × Int) × List Int × List Int)) := (Wk.alt (Wk.one [.keep, .keep] (Pk.fst (pk (Sh.snd (Sh.cons Sh.nilptr (Sh.fst (Sh.cons (Sh.int .i64) Sh.nil)))) Sh.hnil))) (Wk.one [(.ptr 0 0 61 [.keep, .keep, .keep, .keep, .keep, (.own 1 22), (.own 2 3)]), .keep] (pk (Sh.snd (Sh.cons (Sh.ptr 0 0) (Sh.fst (Sh.cons (Sh.int .i64) Sh.nil)))) (Sh.hfix 0 61 (Sh.cons (Sh.int .i64) (Sh.cons (Sh.int .i64) (Sh.cons (Sh.int .i64) (Sh.cons (Sh.int .i64) (Sh.fst (Sh.cons (Sh.int .i64) (Sh.snd (Sh.cons (Sh.osl 1) (Sh.snd (Sh.cons (Sh.osl 2) Sh.nil)))))))))) (Sh.hrow 2 3 (Sh.fst (Sh.hrow 1 22 Sh.hnil)))))))
def F6_0 (v : Int × Int × Int × Int × Int × Int × List Int × List Int × (List (Int × Int × Bool)) × (List (Int × Int)) × (List (List (Int × Int))) × (List (Int × Int × Int × Int × Bool)) × Int × Int × Int × Int) : Option (Int ⊕ (Int × (Int × Int × Int × Int × Int) × List Int × List Int)) :=
  (F12_0 v).bind fun r355 =>
  bif (!r355) then
    some (.inl (42 : Int))
  else
    (F13_0 v.2.2.2.2.2.2.1).bind fun r356 =>
    (F14_0 v.2.2.2.2.2.2.2.1).bind fun r357 =>
    bif (decide (v.2.1 < (17179869184 : Int))) then
      some (.inl (40 : Int))
    else
      bif (decide (v.2.1 > (274877906944 : Int))) then
        some (.inl (40 : Int))
      else
        (F17_0 ((140737488355328 : Int), ([v.2.2.2.2.1, v.2.2.2.2.2.1] : List Int))).bind fun r358 =>
        bif (!r358) then
          some (.inl (40 : Int))
        else
          (F17_0 ((2199023255552 : Int), r356)).bind fun r359 =>
          bif (!r359) then
            some (.inl (40 : Int))
          else
            (F18_0 ((v.2.1, (v.2.2.1, (v.2.2.2.1, (v.2.2.2.2.1, v.2.2.2.2.2.1)))), (r357, r356))).bind fun r360 =>
            bif (!r360.1) then
              some (.inl (40 : Int))
            else
              (F19_1 (v, r360.2.2.2)).bind fun r361 =>
              bif r361.1 then
                some (.inl (40 : Int))
              else
                (F20_0 r361.2.1.2.2.2.2.2.2.2.2.1).bind fun r362 =>
                bif r362 then
                  some (.inl (40 : Int))
                else
                  some (.inr ((0 : Int), (r360.2.1, (r361.2.2, r360.2.2.1))))

noncomputable def k6_0 : List (Known Tryz.prog E) := [Known.of envOk [9] [(.agg [.keep, .keep, .keep, .keep, .keep, .keep, (.ros 22), (.ros 3), (.ros 64), (.ros 24), (.ros 28), (.ros 187), .keep, .keep, .keep, .keep])] v12_0 F12_0 w12_0 ok12_0, Known.of envOk [7] [(.ros 22)] v13_0 F13_0 w13_0 ok13_0, Known.of envOk [7] [(.ros 3)] v14_0 F14_0 w14_0 ok14_0, Known.of envOk [1, 7] [.keep, (.ros 22)] v17_0 F17_0 w17_0 ok17_0, Known.of envOk [5] [(.ptr 0 0 61 [.keep, .keep, .keep, .keep, .keep, (.own 1 22), (.own 2 3)])] v18_0 F18_0 w18_0 ok18_0, Known.of envOk [7, 115] [(.own 0 3), (.fn (.func 15) [] [(.ptr 1 0 34 [.keep, .keep, .keep, .keep, .keep, .keep, (.ros 22), (.ros 3), (.ros 64), (.ros 24), (.ros 28), (.ros 187), .keep, .keep, .keep, .keep])])] v19_1 F19_1 w19_1 ok19_1, Known.of envOk [7, 116] [(.ros 64), (.fn (.func 16) [] [])] v20_0 F20_0 w20_0 ok20_0]
noncomputable def L6_0 (n id : Nat) (st : St G) : Option (Int ⊕ (Int × (Int × Int × Int × Int × Int) × List Int × List Int)) := none
set_option maxRecDepth 100000 in
theorem e6_0 (n : Nat) (v : Int × Int × Int × Int × Int × Int × List Int × List Int × (List (Int × Int × Bool)) × (List (Int × Int)) × (List (List (Int × Int))) × (List (Int × Int × Int × Int × Bool)) × Int × Int × Int × Int) : ev Tryz.prog E (oracle k6_0) Tryz.f6.ntmps (fun x => mem x []) (L6_0 n) (finF Tryz.prog E Tryz.f6.results.toList [[], []] w6_0.alts) 4000 [.code (Tryz.f6.body.getD .skip)] (argSt (v6_0.enc v)) = F6_0 v := by kernel_rfl
theorem ok6_0 : FnOk Tryz.prog E 6 v6_0.enc F6_0 w6_0.enc :=
  fn_known (fn := Tryz.f6) (c := (Tryz.f6.body.getD .skip)) Tryz.func6 (by kernel_rfl) rfl envOk (oracle_ok k6_0) mixed v6_0 F6_0 w6_0 [] [[], []] (by kernel_rfl) [] 4000 L6_0 (by kernel_rfl)
    (fun _ h => nomatch h) (fun v _ h => ⟨0, (e6_0 _ v).trans h⟩) (fun _ => by kernel_rfl) (fun _ => by kernel_rfl) (fun _ r => by rcases r with r | r <;> kernel_rfl)
/- chicane/fx.Clamp -/
abbrev A39_0 : Type := Int × Int × Int
abbrev R39_0 : Type := Int
def v39_0 : Pk G (Int × Int × Int) := (Pk.fst (pk (Sh.cons (Sh.int .i64) (Sh.cons (Sh.int .i64) (Sh.fst (Sh.cons (Sh.int .i64) Sh.nil)))) Sh.hnil))
def w39_0 : Wk G Int := (Wk.one [.keep] (Pk.fst (pk (Sh.fst (Sh.cons (Sh.int .i64) Sh.nil)) Sh.hnil)))
def F39_0 (v : Int × Int × Int) : Option Int :=
  bif (decide (v.1 < v.2.1)) then
    some (v.2.1)
  else
    bif (decide (v.1 > v.2.2)) then
      some (v.2.2)
    else
      some (v.1)

noncomputable def k39_0 : List (Known Tryz.prog E) := []
noncomputable def L39_0 (n id : Nat) (st : St G) : Option Int := none
set_option maxRecDepth 100000 in
theorem e39_0 (n : Nat) (v : Int × Int × Int) : ev Tryz.prog E (oracle k39_0) Tryz.f39.ntmps (fun x => mem x []) (L39_0 n) (finF Tryz.prog E Tryz.f39.results.toList [[]] w39_0.alts) 4000 [.code (Tryz.f39.body.getD .skip)] (argSt (v39_0.enc v)) = F39_0 v := by kernel_rfl
theorem ok39_0 : FnOk Tryz.prog E 39 v39_0.enc F39_0 w39_0.enc :=
  fn_known (fn := Tryz.f39) (c := (Tryz.f39.body.getD .skip)) Tryz.func39 (by kernel_rfl) rfl envOk (oracle_ok k39_0) mixed v39_0 F39_0 w39_0 [] [[]] (by kernel_rfl) [] 4000 L39_0 (by kernel_rfl)
    (fun _ h => nomatch h) (fun v _ h => ⟨0, (e39_0 _ v).trans h⟩) (fun _ => by kernel_rfl) (fun _ => by kernel_rfl) (fun _ _ => by kernel_rfl)
/- chicane/vec.Clamp$1 -/
abbrev A65_0 : Type := (Int × Int) × Int
abbrev R65_0 : Type := Int × Int
def v65_0 : Pk G ((Int × Int) × Int) := (pk (Sh.cons (Sh.int .i64) (Sh.fst (Sh.cons (Sh.int .i64) (Sh.snd (Sh.cons (Sh.ptr 0 0) Sh.nil))))) (Sh.fst (Sh.hfix 0 22 (Sh.fst (Sh.cons (Sh.int .i64) Sh.nil)) Sh.hnil)))
def w65_0 : Wk G (Int × Int) := (Wk.one [.keep] (pk (Sh.fst (Sh.cons (Sh.int .i64) Sh.nil)) (Sh.fst (Sh.hfix 0 22 (Sh.fst (Sh.cons (Sh.int .i64) Sh.nil)) Sh.hnil))))
def F65_0 (v : (Int × Int) × Int) : Option (Int × Int) :=
  let x370 : Int := (IntKind.wrap .i64 (0 - v.2))
  (F39_0 (v.1.1, (x370, v.2))).bind fun r371 =>
  some (r371, v.2)

noncomputable def k65_0 : List (Known Tryz.prog E) := [Known.of envOk [1, 1, 1] [.keep, .keep, .keep] v39_0 F39_0 w39_0 ok39_0]
noncomputable def L65_0 (n id : Nat) (st : St G) : Option (Int × Int) := none
set_option maxRecDepth 100000 in
theorem e65_0 (n : Nat) (v : (Int × Int) × Int) : ev Tryz.prog E (oracle k65_0) Tryz.f65.ntmps (fun x => mem x []) (L65_0 n) (finF Tryz.prog E Tryz.f65.results.toList [[(.ptr 0 0 22 [.keep])]] w65_0.alts) 4000 [.code (Tryz.f65.body.getD .skip)] (argSt (v65_0.enc v)) = F65_0 v := by kernel_rfl
theorem ok65_0 : FnOk Tryz.prog E 65 v65_0.enc F65_0 w65_0.enc :=
  fn_known (fn := Tryz.f65) (c := (Tryz.f65.body.getD .skip)) Tryz.func65 (by kernel_rfl) rfl envOk (oracle_ok k65_0) mixed v65_0 F65_0 w65_0 [(.ptr 0 0 22 [.keep])] [[(.ptr 0 0 22 [.keep])]] (by kernel_rfl) [] 4000 L65_0 (by kernel_rfl)
    (fun _ h => nomatch h) (fun v _ h => ⟨0, (e65_0 _ v).trans h⟩) (fun _ => by kernel_rfl) (fun _ => by kernel_rfl) (fun _ _ => by kernel_rfl)
/- chicane/vec.each -/
abbrev A64_0 : Type := ((Int × Int × Int) × Int × Int × Int) × Int
abbrev R64_0 : Type := (Int × Int × Int) × Int
def v64_0 : Pk G (((Int × Int × Int) × Int × Int × Int) × Int) := (pk (Sh.cons (Sh.agg (Sh.cons (Sh.int .i64) (Sh.cons (Sh.int .i64) (Sh.fst (Sh.cons (Sh.int .i64) Sh.nil))))) (Sh.fst (Sh.cons (Sh.agg (Sh.cons (Sh.int .i64) (Sh.cons (Sh.int .i64) (Sh.fst (Sh.cons (Sh.int .i64) Sh.nil))))) (Sh.snd (Sh.cons (Sh.snd (Sh.fn (.func 65) Sh.nil (Sh.snd (Sh.cons (Sh.ptr 0 0) Sh.nil)))) Sh.nil))))) (Sh.fst (Sh.hfix 0 22 (Sh.fst (Sh.cons (Sh.int .i64) Sh.nil)) Sh.hnil)))
def w64_0 : Wk G ((Int × Int × Int) × Int) := (Wk.one [(.agg [.keep, .keep, .keep])] (pk (Sh.fst (Sh.cons (Sh.agg (Sh.cons (Sh.int .i64) (Sh.cons (Sh.int .i64) (Sh.fst (Sh.cons (Sh.int .i64) Sh.nil))))) Sh.nil)) (Sh.fst (Sh.hfix 0 22 (Sh.fst (Sh.cons (Sh.int .i64) Sh.nil)) Sh.hnil))))
def F64_0 (v : ((Int × Int × Int) × Int × Int × Int) × Int) : Option ((Int × Int × Int) × Int) :=
  (F65_0 ((v.1.1.1, v.1.2.1), v.2)).bind fun r378 =>
  (F65_0 ((v.1.1.2.1, v.1.2.2.1), r378.2)).bind fun r379 =>
  (F65_0 ((v.1.1.2.2, v.1.2.2.2), r379.2)).bind fun r380 =>
  some ((r378.1, (r379.1, r380.1)), r380.2)

noncomputable def k64_0 : List (Known Tryz.prog E) := [Known.of envOk [1, 1, 5] [.keep, .keep, (.ptr 0 0 22 [.keep])] v65_0 F65_0 w65_0 ok65_0]
noncomputable def L64_0 (n id : Nat) (st : St G) : Option ((Int × Int × Int) × Int) := none
set_option maxRecDepth 100000 in
theorem e64_0 (n : Nat) (v : ((Int × Int × Int) × Int × Int × Int) × Int) : ev Tryz.prog E (oracle k64_0) Tryz.f64.ntmps (fun x => mem x []) (L64_0 n) (finF Tryz.prog E Tryz.f64.results.toList [[(.ptr 0 0 22 [.keep])]] w64_0.alts) 4000 [.code (Tryz.f64.body.getD .skip)] (argSt (v64_0.enc v)) = F64_0 v := by kernel_rfl
theorem ok64_0 : FnOk Tryz.prog E 64 v64_0.enc F64_0 w64_0.enc :=
  fn_known (fn := Tryz.f64) (c := (Tryz.f64.body.getD .skip)) Tryz.func64 (by kernel_rfl) rfl envOk (oracle_ok k64_0) mixed v64_0 F64_0 w64_0 [(.ptr 0 0 22 [.keep])] [[(.ptr 0 0 22 [.keep])]] (by kernel_rfl) [] 4000 L64_0 (by kernel_rfl)
    (fun _ h => nomatch h) (fun v _ h => ⟨0, (e64_0 _ v).trans h⟩) (fun _ => by kernel_rfl) (fun _ => by kernel_rfl) (fun _ _ => by kernel_rfl)
/- chicane/vec.Clamp -/
abbrev A38_0 : Type := (Int × Int × Int) × Int
abbrev R38_0 : Type := Int × Int × Int
def v38_0 : Pk G ((Int × Int × Int) × Int) := (Pk.fst (pk (Sh.cons (Sh.agg (Sh.cons (Sh.int .i64) (Sh.cons (Sh.int .i64) (Sh.fst (Sh.cons (Sh.int .i64) Sh.nil))))) (Sh.fst (Sh.cons (Sh.int .i64) Sh.nil))) Sh.hnil))
def w38_0 : Wk G (Int × Int × Int) := (Wk.one [(.agg [.keep, .keep, .keep])] (Pk.fst (pk (Sh.fst (Sh.cons (Sh.agg (Sh.cons (Sh.int .i64) (Sh.cons (Sh.int .i64) (Sh.fst (Sh.cons (Sh.int .i64) Sh.nil))))) Sh.nil)) Sh.hnil)))
def F38_0 (v : (Int × Int × Int) × Int) : Option (Int × Int × Int) :=
  (F64_0 ((v.1, v.1), v.2)).bind fun r383 =>
  some (r383.1)

noncomputable def k38_0 : List (Known Tryz.prog E) := [Known.of envOk [9, 9, 165] [(.agg [.keep, .keep, .keep]), (.agg [.keep, .keep, .keep]), (.fn (.func 65) [] [(.ptr 0 0 22 [.keep])])] v64_0 F64_0 w64_0 ok64_0]
noncomputable def L38_0 (n id : Nat) (st : St G) : Option (Int × Int × Int) := none
set_option maxRecDepth 100000 in
theorem e38_0 (n : Nat) (v : (Int × Int × Int) × Int) : ev Tryz.prog E (oracle k38_0) Tryz.f38.ntmps (fun x => mem x []) (L38_0 n) (finF Tryz.prog E Tryz.f38.results.toList [[]] w38_0.alts) 4000 [.code (Tryz.f38.body.getD .skip)] (argSt (v38_0.enc v)) = F38_0 v := by kernel_rfl
theorem ok38_0 : FnOk Tryz.prog E 38 v38_0.enc F38_0 w38_0.enc :=
  fn_known (fn := Tryz.f38) (c := (Tryz.f38.body.getD .skip)) Tryz.func38 (by kernel_rfl) rfl envOk (oracle_ok k38_0) mixed v38_0 F38_0 w38_0 [] [[]] (by kernel_rfl) [] 4000 L38_0 (by kernel_rfl)
    (fun _ h => nomatch h) (fun v _ h => ⟨0, (e38_0 _ v).trans h⟩) (fun _ => by kernel_rfl) (fun _ => by kernel_rfl) (fun _ _ => by kernel_rfl)
/- chicane/ray.may -/
abbrev A21_0 : Type := (Int × Int × Int) × (Int × Int × Int) × Int
abbrev R21_0 : Type := Bool
def v21_0 : Pk G ((Int × Int × Int) × (Int × Int × Int) × Int) := (Pk.fst (pk (Sh.cons (Sh.agg (Sh.cons (Sh.int .i64) (Sh.cons (Sh.int .i64) (Sh.fst (Sh.cons (Sh.int .i64) Sh.nil))))) (Sh.cons (Sh.agg (Sh.cons (Sh.int .i64) (Sh.cons (Sh.int .i64) (Sh.fst (Sh.cons (Sh.int .i64) Sh.nil))))) (Sh.fst (Sh.cons (Sh.int .i64) Sh.nil)))) Sh.hnil))
def w21_0 : Wk G Bool := (Wk.one [.keep] (Pk.fst (pk (Sh.fst (Sh.cons Sh.bool Sh.nil)) Sh.hnil)))
def F21_0 (v : (Int × Int × Int) × (Int × Int × Int) × Int) : Option Bool :=
  (F38_0 (v.1, (281474976710656 : Int))).bind fun r394 =>
  bif (r394.1 == v.1.1) then
    bif (r394.2.1 == v.1.2.1) then
      (F38_0 (v.1, (4398046511104 : Int))).bind fun r395 =>
      bif (r395.2.2 == v.1.2.2) then
        (F38_0 (v.2.1, (4294967296 : Int))).bind fun r396 =>
        let x397 : Bool := ((r396.1 == v.2.1.1) && ((r396.2.1 == v.2.1.2.1) && ((r396.2.2 == v.2.1.2.2) && true)))
        bif x397 then
          (F39_0 (v.2.2, ((0 : Int), (274877906944 : Int)))).bind fun r398 =>
          some (r398 == v.2.2)
        else
          some (false)
      else
        some (false)
    else
      some (false)
  else
    some (false)

noncomputable def k21_0 : List (Known Tryz.prog E) := [Known.of envOk [9, 1] [(.agg [.keep, .keep, .keep]), .keep] v38_0 F38_0 w38_0 ok38_0, Known.of envOk [1, 1, 1] [.keep, .keep, .keep] v39_0 F39_0 w39_0 ok39_0]
noncomputable def L21_0 (n id : Nat) (st : St G) : Option Bool := none
set_option maxRecDepth 100000 in
theorem e21_0 (n : Nat) (v : (Int × Int × Int) × (Int × Int × Int) × Int) : ev Tryz.prog E (oracle k21_0) Tryz.f21.ntmps (fun x => mem x []) (L21_0 n) (finF Tryz.prog E Tryz.f21.results.toList [[]] w21_0.alts) 4000 [.code (Tryz.f21.body.getD .skip)] (argSt (v21_0.enc v)) = F21_0 v := by kernel_rfl
theorem ok21_0 : FnOk Tryz.prog E 21 v21_0.enc F21_0 w21_0.enc :=
  fn_known (fn := Tryz.f21) (c := (Tryz.f21.body.getD .skip)) Tryz.func21 (by kernel_rfl) rfl envOk (oracle_ok k21_0) mixed v21_0 F21_0 w21_0 [] [[]] (by kernel_rfl) [] 4000 L21_0 (by kernel_rfl)
    (fun _ h => nomatch h) (fun v _ h => ⟨0, (e21_0 _ v).trans h⟩) (fun _ => by kernel_rfl) (fun _ => by kernel_rfl) (fun _ _ => by kernel_rfl)
/- (*chicane/field.Field).axis -/
abbrev A40_0 : Type := (Int × Int × Int) × (Int × Int × Int × Int × Int) × List Int × List Int
abbrev R40_0 : Type := (Int × Int) × (Int × Int × Int × Int × Int) × List Int × List Int
def v40_0 : Pk G ((Int × Int × Int) × (Int × Int × Int × Int × Int) × List Int × List Int) := (pk (Sh.snd (Sh.cons (Sh.ptr 0 0) (Sh.cons (Sh.int .i64) (Sh.cons (Sh.int .i64) (Sh.fst (Sh.cons (Sh.int .i64) Sh.nil)))))) (Sh.hfix 0 61 (Sh.cons (Sh.int .i64) (Sh.cons (Sh.int .i64) (Sh.cons (Sh.int .i64) (Sh.cons (Sh.int .i64) (Sh.fst (Sh.cons (Sh.int .i64) (Sh.snd (Sh.cons (Sh.osl 1) (Sh.snd (Sh.cons (Sh.osl 2) Sh.nil)))))))))) (Sh.hrow 2 3 (Sh.fst (Sh.hrow 1 22 Sh.hnil)))))
def w40_0 : Wk G ((Int × Int) × (Int × Int × Int × Int × Int) × List Int × List Int) := (Wk.one [.keep, .keep] (pk (Sh.cons (Sh.int .i64) (Sh.fst (Sh.cons (Sh.int .i64) Sh.nil))) (Sh.hfix 0 61 (Sh.cons (Sh.int .i64) (Sh.cons (Sh.int .i64) (Sh.cons (Sh.int .i64) (Sh.cons (Sh.int .i64) (Sh.fst (Sh.cons (Sh.int .i64) (Sh.snd (Sh.cons (Sh.osl 1) (Sh.snd (Sh.cons (Sh.osl 2) Sh.nil)))))))))) (Sh.hrow 1 22 (Sh.fst (Sh.hrow 2 3 Sh.hnil))))))
def F40_0 (v : (Int × Int × Int) × (Int × Int × Int × Int × Int) × List Int × List Int) : Option ((Int × Int) × (Int × Int × Int × Int × Int) × List Int × List Int) :=
  (F39_0 (v.1.1, ((-281474976710656 : Int), (281474976710656 : Int)))).bind fun r416 =>
  let x417 : Int := (IntKind.wrap .i64 (r416 - v.1.2.1))
  let x418 : Int := (if (0 : Int) > x417 then (0 : Int) else x417)
  (chk (v.2.1.1 != 0)).bind fun _ =>
  let x419 : Int := (IntKind.wrap .i64 (Int.tdiv x418 v.2.1.1))
  let x420 : Int := (IntKind.wrap .i64 (v.1.2.2 - (1 : Int)))
  let x421 : Int := (if x420 < x419 then x420 else x419)
  let x422 : Int := (IntKind.wrap .i64 (x421 * v.2.1.1))
  let x423 : Int := (IntKind.wrap .i64 (x417 - x422))
  some ((x421, x423), (v.2.1, (v.2.2.2, v.2.2.1)))

noncomputable def k40_0 : List (Known Tryz.prog E) := [Known.of envOk [1, 1, 1] [.keep, .keep, .keep] v39_0 F39_0 w39_0 ok39_0]
noncomputable def L40_0 (n id : Nat) (st : St G) : Option ((Int × Int) × (Int × Int × Int × Int × Int) × List Int × List Int) := none
set_option maxRecDepth 100000 in
theorem e40_0 (n : Nat) (v : (Int × Int × Int) × (Int × Int × Int × Int × Int) × List Int × List Int) : ev Tryz.prog E (oracle k40_0) Tryz.f40.ntmps (fun x => mem x []) (L40_0 n) (finF Tryz.prog E Tryz.f40.results.toList [[(.own 2 3), (.own 1 22), (.ptr 0 0 61 [.keep, .keep, .keep, .keep, .keep, (.own 1 22), (.own 2 3)])]] w40_0.alts) 4000 [.code (Tryz.f40.body.getD .skip)] (argSt (v40_0.enc v)) = F40_0 v := by kernel_rfl
theorem ok40_0 : FnOk Tryz.prog E 40 v40_0.enc F40_0 w40_0.enc :=
  fn_known (fn := Tryz.f40) (c := (Tryz.f40.body.getD .skip)) Tryz.func40 (by kernel_rfl) rfl envOk (oracle_ok k40_0) mixed v40_0 F40_0 w40_0 [(.own 2 3), (.own 1 22), (.ptr 0 0 61 [.keep, .keep, .keep, .keep, .keep, (.own 1 22), (.own 2 3)])] [[(.own 2 3), (.own 1 22), (.ptr 0 0 61 [.keep, .keep, .keep, .keep, .keep, (.own 1 22), (.own 2 3)])]] (by kernel_rfl) [] 4000 L40_0 (by kernel_rfl)
    (fun _ h => nomatch h) (fun v _ h => ⟨0, (e40_0 _ v).trans h⟩) (fun _ => by kernel_rfl) (fun _ => by kernel_rfl) (fun _ _ => by kernel_rfl)
/- (*chicane/field.Field).Where -/
abbrev A22_0 : Type := (Int × Int) × (Int × Int × Int × Int × Int) × List Int × List Int
abbrev R22_0 : Type := (Int × Int × Int × Int) × (Int × Int × Int × Int × Int) × List Int × List Int
def v22_0 : Pk G ((Int × Int) × (Int × Int × Int × Int × Int) × List Int × List Int) := (pk (Sh.snd (Sh.cons (Sh.ptr 0 0) (Sh.cons (Sh.int .i64) (Sh.fst (Sh.cons (Sh.int .i64) Sh.nil))))) (Sh.hfix 0 61 (Sh.cons (Sh.int .i64) (Sh.cons (Sh.int .i64) (Sh.cons (Sh.int .i64) (Sh.cons (Sh.int .i64) (Sh.fst (Sh.cons (Sh.int .i64) (Sh.snd (Sh.cons (Sh.osl 1) (Sh.snd (Sh.cons (Sh.osl 2) Sh.nil)))))))))) (Sh.hrow 2 3 (Sh.fst (Sh.hrow 1 22 Sh.hnil)))))
def w22_0 : Wk G ((Int × Int × Int × Int) × (Int × Int × Int × Int × Int) × List Int × List Int) := (Wk.one [.keep, .keep, .keep, .keep] (pk (Sh.cons (Sh.int .i64) (Sh.cons (Sh.int .i64) (Sh.cons (Sh.int .i64) (Sh.fst (Sh.cons (Sh.int .i64) Sh.nil))))) (Sh.hfix 0 61 (Sh.cons (Sh.int .i64) (Sh.cons (Sh.int .i64) (Sh.cons (Sh.int .i64) (Sh.cons (Sh.int .i64) (Sh.fst (Sh.cons (Sh.int .i64) (Sh.snd (Sh.cons (Sh.osl 1) (Sh.snd (Sh.cons (Sh.osl 2) Sh.nil)))))))))) (Sh.hrow 1 22 (Sh.fst (Sh.hrow 2 3 Sh.hnil))))))
def F22_0 (v : (Int × Int) × (Int × Int × Int × Int × Int) × List Int × List Int) : Option ((Int × Int × Int × Int) × (Int × Int × Int × Int × Int) × List Int × List Int) :=
  (F40_0 ((v.1.1, (v.2.1.2.2.2.1, v.2.1.2.1)), v.2)).bind fun r428 =>
  (F40_0 ((v.1.2, (r428.2.1.2.2.2.2, r428.2.1.2.2.1)), (r428.2.1, (r428.2.2.2, r428.2.2.1)))).bind fun r429 =>
  some ((r428.1.1, (r429.1.1, (r428.1.2, r429.1.2))), r429.2)

noncomputable def k22_0 : List (Known Tryz.prog E) := [Known.of envOk [5, 1, 1, 1] [(.ptr 0 0 61 [.keep, .keep, .keep, .keep, .keep, (.own 1 22), (.own 2 3)]), .keep, .keep, .keep] v40_0 F40_0 w40_0 ok40_0]
noncomputable def L22_0 (n id : Nat) (st : St G) : Option ((Int × Int × Int × Int) × (Int × Int × Int × Int × Int) × List Int × List Int) := none
set_option maxRecDepth 100000 in
theorem e22_0 (n : Nat) (v : (Int × Int) × (Int × Int × Int × Int × Int) × List Int × List Int) : ev Tryz.prog E (oracle k22_0) Tryz.f22.ntmps (fun x => mem x []) (L22_0 n) (finF Tryz.prog E Tryz.f22.results.toList [[(.own 2 3), (.own 1 22), (.ptr 0 0 61 [.keep, .keep, .keep, .keep, .keep, (.own 1 22), (.own 2 3)])]] w22_0.alts) 4000 [.code (Tryz.f22.body.getD .skip)] (argSt (v22_0.enc v)) = F22_0 v := by kernel_rfl
theorem ok22_0 : FnOk Tryz.prog E 22 v22_0.enc F22_0 w22_0.enc :=
  fn_known (fn := Tryz.f22) (c := (Tryz.f22.body.getD .skip)) Tryz.func22 (by kernel_rfl) rfl envOk (oracle_ok k22_0) mixed v22_0 F22_0 w22_0 [(.own 2 3), (.own 1 22), (.ptr 0 0 61 [.keep, .keep, .keep, .keep, .keep, (.own 1 22), (.own 2 3)])] [[(.own 2 3), (.own 1 22), (.ptr 0 0 61 [.keep, .keep, .keep, .keep, .keep, (.own 1 22), (.own 2 3)])]] (by kernel_rfl) [] 4000 L22_0 (by kernel_rfl)
    (fun _ h => nomatch h) (fun v _ h => ⟨0, (e22_0 _ v).trans h⟩) (fun _ => by kernel_rfl) (fun _ => by kernel_rfl) (fun _ _ => by kernel_rfl)
/- math/bits.Mul64 -/
abbrev A87_0 : Type := Int × Int
abbrev R87_0 : Type := Int × Int
def v87_0 : Pk G (Int × Int) := (Pk.fst (pk (Sh.cons (Sh.int .u64) (Sh.fst (Sh.cons (Sh.int .u64) Sh.nil))) Sh.hnil))
def w87_0 : Wk G (Int × Int) := (Wk.one [.keep, .keep] (Pk.fst (pk (Sh.cons (Sh.int .u64) (Sh.fst (Sh.cons (Sh.int .u64) Sh.nil))) Sh.hnil)))
def F87_0 (v : Int × Int) : Option (Int × Int) :=
  let x467 : Int := (Go.bits .and .u64 v.1 (4294967295 : Int))
  let x468 : Int := (Int.fdiv v.1 (2 ^ 32))
  let x469 : Int := (Go.bits .and .u64 v.2 (4294967295 : Int))
  let x470 : Int := (Int.fdiv v.2 (2 ^ 32))
  let x471 : Int := (IntKind.wrap .u64 (x467 * x469))
  let x472 : Int := (IntKind.wrap .u64 (x468 * x469))
  let x473 : Int := (Int.fdiv x471 (2 ^ 32))
  let x474 : Int := (IntKind.wrap .u64 (x472 + x473))
  let x475 : Int := (Go.bits .and .u64 x474 (4294967295 : Int))
  let x476 : Int := (Int.fdiv x474 (2 ^ 32))
  let x477 : Int := (IntKind.wrap .u64 (x467 * x470))
  let x478 : Int := (IntKind.wrap .u64 (x475 + x477))
  let x479 : Int := (IntKind.wrap .u64 (x468 * x470))
  let x480 : Int := (IntKind.wrap .u64 (x479 + x476))
  let x481 : Int := (Int.fdiv x478 (2 ^ 32))
  let x482 : Int := (IntKind.wrap .u64 (x480 + x481))
  let x483 : Int := (IntKind.wrap .u64 (v.1 * v.2))
  some (x482, x483)

noncomputable def k87_0 : List (Known Tryz.prog E) := []
noncomputable def L87_0 (n id : Nat) (st : St G) : Option (Int × Int) := none
set_option maxRecDepth 100000 in
theorem e87_0 (n : Nat) (v : Int × Int) : ev Tryz.prog E (oracle k87_0) Tryz.f87.ntmps (fun x => mem x []) (L87_0 n) (finF Tryz.prog E Tryz.f87.results.toList [[]] w87_0.alts) 4000 [.code (Tryz.f87.body.getD .skip)] (argSt (v87_0.enc v)) = F87_0 v := by kernel_rfl
theorem ok87_0 : FnOk Tryz.prog E 87 v87_0.enc F87_0 w87_0.enc :=
  fn_known (fn := Tryz.f87) (c := (Tryz.f87.body.getD .skip)) Tryz.func87 (by kernel_rfl) rfl envOk (oracle_ok k87_0) mixed v87_0 F87_0 w87_0 [] [[]] (by kernel_rfl) [] 4000 L87_0 (by kernel_rfl)
    (fun _ h => nomatch h) (fun v _ h => ⟨0, (e87_0 _ v).trans h⟩) (fun _ => by kernel_rfl) (fun _ => by kernel_rfl) (fun _ _ => by kernel_rfl)
/- chicane/wide.Mul -/
abbrev A73_0 : Type := Int × Int
abbrev R73_0 : Type := Int × Int
def v73_0 : Pk G (Int × Int) := (Pk.fst (pk (Sh.cons (Sh.int .i64) (Sh.fst (Sh.cons (Sh.int .i64) Sh.nil))) Sh.hnil))
def w73_0 : Wk G (Int × Int) := (Wk.one [(.agg [.keep, .keep])] (Pk.fst (pk (Sh.fst (Sh.cons (Sh.agg (Sh.cons (Sh.int .i64) (Sh.fst (Sh.cons (Sh.int .u64) Sh.nil)))) Sh.nil)) Sh.hnil)))
def F73_0 (v : Int × Int) : Option (Int × Int) :=
  let x508 : Int := (IntKind.wrap .u64 v.1)
  let x509 : Int := (IntKind.wrap .u64 v.2)
  (F87_0 (x508, x509)).bind fun r510 =>
  bif (decide (v.1 < (0 : Int))) then
    let x511 : Int := (IntKind.wrap .u64 v.2)
    let x512 : Int := (IntKind.wrap .u64 (r510.1 - x511))
    bif (decide (v.2 < (0 : Int))) then
      let x513 : Int := (IntKind.wrap .u64 v.1)
      let x514 : Int := (IntKind.wrap .u64 (x512 - x513))
      let x515 : Int := (IntKind.wrap .i64 x514)
      some (x515, r510.2)
    else
      let x516 : Int := (IntKind.wrap .i64 x512)
      some (x516, r510.2)
  else
    bif (decide (v.2 < (0 : Int))) then
      let x517 : Int := (IntKind.wrap .u64 v.1)
      let x518 : Int := (IntKind.wrap .u64 (r510.1 - x517))
      let x519 : Int := (IntKind.wrap .i64 x518)
      some (x519, r510.2)
    else
      let x520 : Int := (IntKind.wrap .i64 r510.1)
      some (x520, r510.2)

noncomputable def k73_0 : List (Known Tryz.prog E) := [Known.of envOk [1, 1] [.keep, .keep] v87_0 F87_0 w87_0 ok87_0]
noncomputable def L73_0 (n id : Nat) (st : St G) : Option (Int × Int) := none
set_option maxRecDepth 100000 in
theorem e73_0 (n : Nat) (v : Int × Int) : ev Tryz.prog E (oracle k73_0) Tryz.f73.ntmps (fun x => mem x []) (L73_0 n) (finF Tryz.prog E Tryz.f73.results.toList [[]] w73_0.alts) 4000 [.code (Tryz.f73.body.getD .skip)] (argSt (v73_0.enc v)) = F73_0 v := by kernel_rfl
theorem ok73_0 : FnOk Tryz.prog E 73 v73_0.enc F73_0 w73_0.enc :=
  fn_known (fn := Tryz.f73) (c := (Tryz.f73.body.getD .skip)) Tryz.func73 (by kernel_rfl) rfl envOk (oracle_ok k73_0) mixed v73_0 F73_0 w73_0 [] [[]] (by kernel_rfl) [] 4000 L73_0 (by kernel_rfl)
    (fun _ h => nomatch h) (fun v _ h => ⟨0, (e73_0 _ v).trans h⟩) (fun _ => by kernel_rfl) (fun _ => by kernel_rfl) (fun _ _ => by kernel_rfl)
/- chicane/wide.Of -/
abbrev A69_0 : Type := Int
abbrev R69_0 : Type := Int × Int
def v69_0 : Pk G Int := (Pk.fst (pk (Sh.fst (Sh.cons (Sh.int .i64) Sh.nil)) Sh.hnil))
def w69_0 : Wk G (Int × Int) := (Wk.one [(.agg [.keep, .keep])] (Pk.fst (pk (Sh.fst (Sh.cons (Sh.agg (Sh.cons (Sh.int .i64) (Sh.fst (Sh.cons (Sh.int .u64) Sh.nil)))) Sh.nil)) Sh.hnil)))
def F69_0 (v : Int) : Option (Int × Int) :=
  let x532 : Int := (Int.fdiv v (2 ^ 63))
  let x533 : Int := (IntKind.wrap .u64 v)
  some (x532, x533)

noncomputable def k69_0 : List (Known Tryz.prog E) := []
noncomputable def L69_0 (n id : Nat) (st : St G) : Option (Int × Int) := none
set_option maxRecDepth 100000 in
theorem e69_0 (n : Nat) (v : Int) : ev Tryz.prog E (oracle k69_0) Tryz.f69.ntmps (fun x => mem x []) (L69_0 n) (finF Tryz.prog E Tryz.f69.results.toList [[]] w69_0.alts) 4000 [.code (Tryz.f69.body.getD .skip)] (argSt (v69_0.enc v)) = F69_0 v := by kernel_rfl
theorem ok69_0 : FnOk Tryz.prog E 69 v69_0.enc F69_0 w69_0.enc :=
  fn_known (fn := Tryz.f69) (c := (Tryz.f69.body.getD .skip)) Tryz.func69 (by kernel_rfl) rfl envOk (oracle_ok k69_0) mixed v69_0 F69_0 w69_0 [] [[]] (by kernel_rfl) [] 4000 L69_0 (by kernel_rfl)
    (fun _ h => nomatch h) (fun v _ h => ⟨0, (e69_0 _ v).trans h⟩) (fun _ => by kernel_rfl) (fun _ => by kernel_rfl) (fun _ _ => by kernel_rfl)
/- math/bits.Add64 -/
abbrev A86_x : Type := Int × Int × Int
abbrev R86_x : Type := Int × Int
def v86_x : Pk G (Int × Int × Int) := p3u
def w86_x : Wk G (Int × Int) := Wk.one [.keep, .keep] p2u
def F86_x (v : Int × Int × Int) : Option (Int × Int) := add64F v
theorem ok86_x : FnOk Tryz.prog E 86 v86_x.enc F86_x w86_x.enc := add64_known Tryz.func86 (by kernel_rfl) (by kernel_rfl) (by kernel_rfl) (by kernel_rfl)
/- chicane/wide.Add -/
abbrev A70_0 : Type := (Int × Int) × Int × Int
abbrev R70_0 : Type := (Int × Int) × Bool
def v70_0 : Pk G ((Int × Int) × Int × Int) := (Pk.fst (pk (Sh.cons (Sh.agg (Sh.cons (Sh.int .i64) (Sh.fst (Sh.cons (Sh.int .u64) Sh.nil)))) (Sh.fst (Sh.cons (Sh.agg (Sh.cons (Sh.int .i64) (Sh.fst (Sh.cons (Sh.int .u64) Sh.nil)))) Sh.nil))) Sh.hnil))
def w70_0 : Wk G ((Int × Int) × Bool) := (Wk.one [(.agg [.keep, .keep]), .keep] (Pk.fst (pk (Sh.cons (Sh.agg (Sh.cons (Sh.int .i64) (Sh.fst (Sh.cons (Sh.int .u64) Sh.nil)))) (Sh.fst (Sh.cons Sh.bool Sh.nil))) Sh.hnil)))
def F70_0 (v : (Int × Int) × Int × Int) : Option ((Int × Int) × Bool) :=
  (F86_x (v.1.2, (v.2.2, (0 : Int)))).bind fun r549 =>
  let x550 : Int := (IntKind.wrap .u64 v.1.1)
  let x551 : Int := (IntKind.wrap .u64 v.2.1)
  (F86_x (x550, (x551, r549.2))).bind fun r552 =>
  bif ((decide (v.1.1 < (0 : Int))) == (decide (v.2.1 < (0 : Int)))) then
    let x553 : Int := (IntKind.wrap .i64 r552.1)
    bif (!((decide (x553 < (0 : Int))) == (decide (v.1.1 < (0 : Int))))) then
      some (((0 : Int), (0 : Int)), false)
    else
      let x554 : Int := (IntKind.wrap .i64 r552.1)
      some ((x554, r549.1), true)
  else
    let x555 : Int := (IntKind.wrap .i64 r552.1)
    some ((x555, r549.1), true)

noncomputable def k70_0 : List (Known Tryz.prog E) := [Known.of envOk [1, 1, 1] [.keep, .keep, .keep] v86_x F86_x w86_x ok86_x]
noncomputable def L70_0 (n id : Nat) (st : St G) : Option ((Int × Int) × Bool) := none
set_option maxRecDepth 100000 in
theorem e70_0 (n : Nat) (v : (Int × Int) × Int × Int) : ev Tryz.prog E (oracle k70_0) Tryz.f70.ntmps (fun x => mem x []) (L70_0 n) (finF Tryz.prog E Tryz.f70.results.toList [[]] w70_0.alts) 4000 [.code (Tryz.f70.body.getD .skip)] (argSt (v70_0.enc v)) = F70_0 v := by kernel_rfl
theorem ok70_0 : FnOk Tryz.prog E 70 v70_0.enc F70_0 w70_0.enc :=
  fn_known (fn := Tryz.f70) (c := (Tryz.f70.body.getD .skip)) Tryz.func70 (by kernel_rfl) rfl envOk (oracle_ok k70_0) mixed v70_0 F70_0 w70_0 [] [[]] (by kernel_rfl) [] 4000 L70_0 (by kernel_rfl)
    (fun _ h => nomatch h) (fun v _ h => ⟨0, (e70_0 _ v).trans h⟩) (fun _ => by kernel_rfl) (fun _ => by kernel_rfl) (fun _ _ => by kernel_rfl)
/- (*chicane/fx.M).bound -/
abbrev A72_0 : Type := Bool × Bool
abbrev R72_0 : Type := Int × Bool
def v72_0 : Pk G (Bool × Bool) := (pk (Sh.snd (Sh.cons (Sh.ptr 0 0) (Sh.fst (Sh.cons Sh.bool Sh.nil)))) (Sh.fst (Sh.hfix 0 47 (Sh.fst (Sh.cons Sh.bool Sh.nil)) Sh.hnil)))
def w72_0 : Wk G (Int × Bool) := (Wk.one [.keep] (pk (Sh.fst (Sh.cons (Sh.int .i64) Sh.nil)) (Sh.fst (Sh.hfix 0 47 (Sh.fst (Sh.cons Sh.bool Sh.nil)) Sh.hnil))))
def F72_0 (v : Bool × Bool) : Option (Int × Bool) :=
  bif v.1 then
    some ((-9223372036854775808 : Int), true)
  else
    some ((9223372036854775807 : Int), true)

noncomputable def k72_0 : List (Known Tryz.prog E) := []
noncomputable def L72_0 (n id : Nat) (st : St G) : Option (Int × Bool) := none
set_option maxRecDepth 100000 in
theorem e72_0 (n : Nat) (v : Bool × Bool) : ev Tryz.prog E (oracle k72_0) Tryz.f72.ntmps (fun x => mem x []) (L72_0 n) (finF Tryz.prog E Tryz.f72.results.toList [[(.ptr 0 0 47 [.keep])]] w72_0.alts) 4000 [.code (Tryz.f72.body.getD .skip)] (argSt (v72_0.enc v)) = F72_0 v := by kernel_rfl
theorem ok72_0 : FnOk Tryz.prog E 72 v72_0.enc F72_0 w72_0.enc :=
  fn_known (fn := Tryz.f72) (c := (Tryz.f72.body.getD .skip)) Tryz.func72 (by kernel_rfl) rfl envOk (oracle_ok k72_0) mixed v72_0 F72_0 w72_0 [(.ptr 0 0 47 [.keep])] [[(.ptr 0 0 47 [.keep])]] (by kernel_rfl) [] 4000 L72_0 (by kernel_rfl)
    (fun _ h => nomatch h) (fun v _ h => ⟨0, (e72_0 _ v).trans h⟩) (fun _ => by kernel_rfl) (fun _ => by kernel_rfl) (fun _ _ => by kernel_rfl)
/- chicane/fx.fit -/
abbrev A71_0 : Type := (Int × Int) × Bool
abbrev R71_0 : Type := Int × Bool
def v71_0 : Pk G ((Int × Int) × Bool) := (pk (Sh.fst (Sh.cons (Sh.agg (Sh.cons (Sh.int .i64) (Sh.fst (Sh.cons (Sh.int .u64) Sh.nil)))) (Sh.snd (Sh.cons (Sh.snd (Sh.fn (.func 72) (Sh.snd (Sh.cons (Sh.ptr 0 0) Sh.nil)) Sh.nil)) Sh.nil)))) (Sh.fst (Sh.hfix 0 47 (Sh.fst (Sh.cons Sh.bool Sh.nil)) Sh.hnil)))
def w71_0 : Wk G (Int × Bool) := (Wk.one [.keep] (pk (Sh.fst (Sh.cons (Sh.int .i64) Sh.nil)) (Sh.fst (Sh.hfix 0 47 (Sh.fst (Sh.cons Sh.bool Sh.nil)) Sh.hnil))))
def F71_0 (v : (Int × Int) × Bool) : Option (Int × Bool) :=
  let x565 : Int := (IntKind.wrap .i64 v.1.2)
  let x566 : Int := (Int.fdiv x565 (2 ^ 63))
  bif (v.1.1 != x566) then
    (F72_0 ((decide (v.1.1 < (0 : Int))), v.2)).bind fun r567 =>
    some (r567)
  else
    let x568 : Int := (IntKind.wrap .i64 v.1.2)
    some (x568, v.2)

noncomputable def k71_0 : List (Known Tryz.prog E) := [Known.of envOk [5, 2] [(.ptr 0 0 47 [.keep]), .keep] v72_0 F72_0 w72_0 ok72_0]
noncomputable def L71_0 (n id : Nat) (st : St G) : Option (Int × Bool) := none
set_option maxRecDepth 100000 in
theorem e71_0 (n : Nat) (v : (Int × Int) × Bool) : ev Tryz.prog E (oracle k71_0) Tryz.f71.ntmps (fun x => mem x []) (L71_0 n) (finF Tryz.prog E Tryz.f71.results.toList [[(.ptr 0 0 47 [.keep])]] w71_0.alts) 4000 [.code (Tryz.f71.body.getD .skip)] (argSt (v71_0.enc v)) = F71_0 v := by kernel_rfl
theorem ok71_0 : FnOk Tryz.prog E 71 v71_0.enc F71_0 w71_0.enc :=
  fn_known (fn := Tryz.f71) (c := (Tryz.f71.body.getD .skip)) Tryz.func71 (by kernel_rfl) rfl envOk (oracle_ok k71_0) mixed v71_0 F71_0 w71_0 [(.ptr 0 0 47 [.keep])] [[(.ptr 0 0 47 [.keep])]] (by kernel_rfl) [] 4000 L71_0 (by kernel_rfl)
    (fun _ h => nomatch h) (fun v _ h => ⟨0, (e71_0 _ v).trans h⟩) (fun _ => by kernel_rfl) (fun _ => by kernel_rfl) (fun _ _ => by kernel_rfl)
/- (*chicane/fx.M).Mul -/
abbrev A46_0 : Type := (Int × Int) × Bool
abbrev R46_0 : Type := Int × Bool
def v46_0 : Pk G ((Int × Int) × Bool) := (pk (Sh.snd (Sh.cons (Sh.ptr 0 0) (Sh.cons (Sh.int .i64) (Sh.fst (Sh.cons (Sh.int .i64) Sh.nil))))) (Sh.fst (Sh.hfix 0 47 (Sh.fst (Sh.cons Sh.bool Sh.nil)) Sh.hnil)))
def w46_0 : Wk G (Int × Bool) := (Wk.one [.keep] (pk (Sh.fst (Sh.cons (Sh.int .i64) Sh.nil)) (Sh.fst (Sh.hfix 0 47 (Sh.fst (Sh.cons Sh.bool Sh.nil)) Sh.hnil))))
def F46_0 (v : (Int × Int) × Bool) : Option (Int × Bool) :=
  (F73_0 v.1).bind fun r592 =>
  let x593 : Int := (IntKind.wrap .u32 r592.2)
  let x594 : Int := (Int.fdiv r592.1 (2 ^ 32))
  let x595 : Int := (IntKind.wrap .u64 r592.1)
  let x596 : Int := (IntKind.wrap .u64 (x595 * 2 ^ 32))
  let x597 : Int := (Int.fdiv r592.2 (2 ^ 32))
  let x598 : Int := (Go.bits .or .u64 x596 x597)
  bif (decide (x593 > (2147483648 : Int))) then
    (F69_0 (1 : Int)).bind fun r599 =>
    (F70_0 ((x594, x598), r599)).bind fun r600 =>
    (F71_0 (r600.1, v.2)).bind fun r601 =>
    some (r601)
  else
    bif (x593 == (2147483648 : Int)) then
      let x602 : Int := (Go.bits .and .u64 x598 (1 : Int))
      bif (x602 == (1 : Int)) then
        (F69_0 (1 : Int)).bind fun r603 =>
        (F70_0 ((x594, x598), r603)).bind fun r604 =>
        (F71_0 (r604.1, v.2)).bind fun r605 =>
        some (r605)
      else
        (F71_0 ((x594, x598), v.2)).bind fun r606 =>
        some (r606)
    else
      (F71_0 ((x594, x598), v.2)).bind fun r607 =>
      some (r607)

noncomputable def k46_0 : List (Known Tryz.prog E) := [Known.of envOk [1, 1] [.keep, .keep] v73_0 F73_0 w73_0 ok73_0, Known.of envOk [1] [.keep] v69_0 F69_0 w69_0 ok69_0, Known.of envOk [9, 9] [(.agg [.keep, .keep]), (.agg [.keep, .keep])] v70_0 F70_0 w70_0 ok70_0, Known.of envOk [9, 172] [(.agg [.keep, .keep]), (.fn (.func 72) [(.ptr 0 0 47 [.keep])] [])] v71_0 F71_0 w71_0 ok71_0]
noncomputable def L46_0 (n id : Nat) (st : St G) : Option (Int × Bool) := none
set_option maxRecDepth 100000 in
theorem e46_0 (n : Nat) (v : (Int × Int) × Bool) : ev Tryz.prog E (oracle k46_0) Tryz.f46.ntmps (fun x => mem x []) (L46_0 n) (finF Tryz.prog E Tryz.f46.results.toList [[(.ptr 0 0 47 [.keep])]] w46_0.alts) 4000 [.code (Tryz.f46.body.getD .skip)] (argSt (v46_0.enc v)) = F46_0 v := by kernel_rfl
theorem ok46_0 : FnOk Tryz.prog E 46 v46_0.enc F46_0 w46_0.enc :=
  fn_known (fn := Tryz.f46) (c := (Tryz.f46.body.getD .skip)) Tryz.func46 (by kernel_rfl) rfl envOk (oracle_ok k46_0) mixed v46_0 F46_0 w46_0 [(.ptr 0 0 47 [.keep])] [[(.ptr 0 0 47 [.keep])]] (by kernel_rfl) [] 4000 L46_0 (by kernel_rfl)
    (fun _ h => nomatch h) (fun v _ h => ⟨0, (e46_0 _ v).trans h⟩) (fun _ => by kernel_rfl) (fun _ => by kernel_rfl) (fun _ _ => by kernel_rfl)
/- chicane/vec.Scale$1 -/
abbrev A66_0 : Type := (Int × Int) × Int × Bool
abbrev R66_0 : Type := Int × Int × Bool
def v66_0 : Pk G ((Int × Int) × Int × Bool) := (pk (Sh.cons (Sh.int .i64) (Sh.fst (Sh.cons (Sh.int .i64) (Sh.snd (Sh.cons (Sh.ptr 0 0) (Sh.snd (Sh.cons (Sh.ptr 2 0) Sh.nil))))))) (Sh.hfix 2 22 (Sh.fst (Sh.cons (Sh.int .i64) Sh.nil)) (Sh.snd (Sh.hfix 0 45 (Sh.snd (Sh.cons (Sh.ptr 1 0) Sh.nil)) (Sh.fst (Sh.hfix 1 47 (Sh.fst (Sh.cons Sh.bool Sh.nil)) Sh.hnil))))))
def w66_0 : Wk G (Int × Int × Bool) := (Wk.one [.keep] (pk (Sh.fst (Sh.cons (Sh.int .i64) Sh.nil)) (Sh.hfix 2 22 (Sh.fst (Sh.cons (Sh.int .i64) Sh.nil)) (Sh.snd (Sh.hfix 0 45 (Sh.snd (Sh.cons (Sh.ptr 1 0) Sh.nil)) (Sh.fst (Sh.hfix 1 47 (Sh.fst (Sh.cons Sh.bool Sh.nil)) Sh.hnil)))))))
def F66_0 (v : (Int × Int) × Int × Bool) : Option (Int × Int × Bool) :=
  (F46_0 ((v.1.1, v.2.1), v.2.2)).bind fun r610 =>
  some (r610.1, (v.2.1, r610.2))

noncomputable def k66_0 : List (Known Tryz.prog E) := [Known.of envOk [5, 1, 1] [(.ptr 0 0 47 [.keep]), .keep, .keep] v46_0 F46_0 w46_0 ok46_0]
noncomputable def L66_0 (n id : Nat) (st : St G) : Option (Int × Int × Bool) := none
set_option maxRecDepth 100000 in
theorem e66_0 (n : Nat) (v : (Int × Int) × Int × Bool) : ev Tryz.prog E (oracle k66_0) Tryz.f66.ntmps (fun x => mem x []) (L66_0 n) (finF Tryz.prog E Tryz.f66.results.toList [[(.ptr 1 0 47 [.keep]), (.ptr 0 0 45 [(.ptr 1 0 47 [])]), (.ptr 2 0 22 [.keep])]] w66_0.alts) 4000 [.code (Tryz.f66.body.getD .skip)] (argSt (v66_0.enc v)) = F66_0 v := by kernel_rfl
theorem ok66_0 : FnOk Tryz.prog E 66 v66_0.enc F66_0 w66_0.enc :=
  fn_known (fn := Tryz.f66) (c := (Tryz.f66.body.getD .skip)) Tryz.func66 (by kernel_rfl) rfl envOk (oracle_ok k66_0) mixed v66_0 F66_0 w66_0 [(.ptr 1 0 47 [.keep]), (.ptr 0 0 45 [(.ptr 1 0 47 [])]), (.ptr 2 0 22 [.keep])] [[(.ptr 1 0 47 [.keep]), (.ptr 0 0 45 [(.ptr 1 0 47 [])]), (.ptr 2 0 22 [.keep])]] (by kernel_rfl) [] 4000 L66_0 (by kernel_rfl)
    (fun _ h => nomatch h) (fun v _ h => ⟨0, (e66_0 _ v).trans h⟩) (fun _ => by kernel_rfl) (fun _ => by kernel_rfl) (fun _ _ => by kernel_rfl)
/- chicane/vec.each -/
abbrev A64_1 : Type := ((Int × Int × Int) × Int × Int × Int) × Int × Bool
abbrev R64_1 : Type := (Int × Int × Int) × Int × Bool
def v64_1 : Pk G (((Int × Int × Int) × Int × Int × Int) × Int × Bool) := (pk (Sh.cons (Sh.agg (Sh.cons (Sh.int .i64) (Sh.cons (Sh.int .i64) (Sh.fst (Sh.cons (Sh.int .i64) Sh.nil))))) (Sh.fst (Sh.cons (Sh.agg (Sh.cons (Sh.int .i64) (Sh.cons (Sh.int .i64) (Sh.fst (Sh.cons (Sh.int .i64) Sh.nil))))) (Sh.snd (Sh.cons (Sh.snd (Sh.fn (.func 66) Sh.nil (Sh.snd (Sh.cons (Sh.ptr 0 0) (Sh.snd (Sh.cons (Sh.ptr 2 0) Sh.nil)))))) Sh.nil))))) (Sh.hfix 2 22 (Sh.fst (Sh.cons (Sh.int .i64) Sh.nil)) (Sh.snd (Sh.hfix 0 45 (Sh.snd (Sh.cons (Sh.ptr 1 0) Sh.nil)) (Sh.fst (Sh.hfix 1 47 (Sh.fst (Sh.cons Sh.bool Sh.nil)) Sh.hnil))))))
def w64_1 : Wk G ((Int × Int × Int) × Int × Bool) := (Wk.one [(.agg [.keep, .keep, .keep])] (pk (Sh.fst (Sh.cons (Sh.agg (Sh.cons (Sh.int .i64) (Sh.cons (Sh.int .i64) (Sh.fst (Sh.cons (Sh.int .i64) Sh.nil))))) Sh.nil)) (Sh.hfix 2 22 (Sh.fst (Sh.cons (Sh.int .i64) Sh.nil)) (Sh.snd (Sh.hfix 0 45 (Sh.snd (Sh.cons (Sh.ptr 1 0) Sh.nil)) (Sh.fst (Sh.hfix 1 47 (Sh.fst (Sh.cons Sh.bool Sh.nil)) Sh.hnil)))))))
def F64_1 (v : ((Int × Int × Int) × Int × Int × Int) × Int × Bool) : Option ((Int × Int × Int) × Int × Bool) :=
  (F66_0 ((v.1.1.1, v.1.2.1), v.2)).bind fun r617 =>
  (F66_0 ((v.1.1.2.1, v.1.2.2.1), r617.2)).bind fun r618 =>
  (F66_0 ((v.1.1.2.2, v.1.2.2.2), r618.2)).bind fun r619 =>
  some ((r617.1, (r618.1, r619.1)), r619.2)

noncomputable def k64_1 : List (Known Tryz.prog E) := [Known.of envOk [1, 1, 5, 5] [.keep, .keep, (.ptr 0 0 45 [(.ptr 1 0 47 [.keep])]), (.ptr 2 0 22 [.keep])] v66_0 F66_0 w66_0 ok66_0]
noncomputable def L64_1 (n id : Nat) (st : St G) : Option ((Int × Int × Int) × Int × Bool) := none
set_option maxRecDepth 100000 in
theorem e64_1 (n : Nat) (v : ((Int × Int × Int) × Int × Int × Int) × Int × Bool) : ev Tryz.prog E (oracle k64_1) Tryz.f64.ntmps (fun x => mem x []) (L64_1 n) (finF Tryz.prog E Tryz.f64.results.toList [[(.ptr 1 0 47 [.keep]), (.ptr 0 0 45 [(.ptr 1 0 47 [])]), (.ptr 2 0 22 [.keep])]] w64_1.alts) 4000 [.code (Tryz.f64.body.getD .skip)] (argSt (v64_1.enc v)) = F64_1 v := by kernel_rfl
theorem ok64_1 : FnOk Tryz.prog E 64 v64_1.enc F64_1 w64_1.enc :=
  fn_known (fn := Tryz.f64) (c := (Tryz.f64.body.getD .skip)) Tryz.func64 (by kernel_rfl) rfl envOk (oracle_ok k64_1) mixed v64_1 F64_1 w64_1 [(.ptr 1 0 47 [.keep]), (.ptr 0 0 45 [(.ptr 1 0 47 [])]), (.ptr 2 0 22 [.keep])] [[(.ptr 1 0 47 [.keep]), (.ptr 0 0 45 [(.ptr 1 0 47 [])]), (.ptr 2 0 22 [.keep])]] (by kernel_rfl) [] 4000 L64_1 (by kernel_rfl)
    (fun _ h => nomatch h) (fun v _ h => ⟨0, (e64_1 _ v).trans h⟩) (fun _ => by kernel_rfl) (fun _ => by kernel_rfl) (fun _ _ => by kernel_rfl)
/- chicane/vec.Scale -/
abbrev A42_0 : Type := ((Int × Int × Int) × Int) × Bool
abbrev R42_0 : Type := (Int × Int × Int) × Bool
def v42_0 : Pk G (((Int × Int × Int) × Int) × Bool) := (pk (Sh.snd (Sh.cons (Sh.ptr 0 0) (Sh.cons (Sh.agg (Sh.cons (Sh.int .i64) (Sh.cons (Sh.int .i64) (Sh.fst (Sh.cons (Sh.int .i64) Sh.nil))))) (Sh.fst (Sh.cons (Sh.int .i64) Sh.nil))))) (Sh.fst (Sh.hfix 0 47 (Sh.fst (Sh.cons Sh.bool Sh.nil)) Sh.hnil)))
def w42_0 : Wk G ((Int × Int × Int) × Bool) := (Wk.one [(.agg [.keep, .keep, .keep])] (pk (Sh.fst (Sh.cons (Sh.agg (Sh.cons (Sh.int .i64) (Sh.cons (Sh.int .i64) (Sh.fst (Sh.cons (Sh.int .i64) Sh.nil))))) Sh.nil)) (Sh.fst (Sh.hfix 0 47 (Sh.fst (Sh.cons Sh.bool Sh.nil)) Sh.hnil))))
def F42_0 (v : ((Int × Int × Int) × Int) × Bool) : Option ((Int × Int × Int) × Bool) :=
  (F64_1 ((v.1.1, v.1.1), (v.1.2, v.2))).bind fun r622 =>
  some (r622.1, r622.2.2)

noncomputable def k42_0 : List (Known Tryz.prog E) := [Known.of envOk [9, 9, 166] [(.agg [.keep, .keep, .keep]), (.agg [.keep, .keep, .keep]), (.fn (.func 66) [] [(.ptr 0 0 45 [(.ptr 1 0 47 [.keep])]), (.ptr 2 0 22 [.keep])])] v64_1 F64_1 w64_1 ok64_1]
noncomputable def L42_0 (n id : Nat) (st : St G) : Option ((Int × Int × Int) × Bool) := none
set_option maxRecDepth 100000 in
theorem e42_0 (n : Nat) (v : ((Int × Int × Int) × Int) × Bool) : ev Tryz.prog E (oracle k42_0) Tryz.f42.ntmps (fun x => mem x []) (L42_0 n) (finF Tryz.prog E Tryz.f42.results.toList [[(.ptr 0 0 47 [.keep])]] w42_0.alts) 4000 [.code (Tryz.f42.body.getD .skip)] (argSt (v42_0.enc v)) = F42_0 v := by kernel_rfl
theorem ok42_0 : FnOk Tryz.prog E 42 v42_0.enc F42_0 w42_0.enc :=
  fn_known (fn := Tryz.f42) (c := (Tryz.f42.body.getD .skip)) Tryz.func42 (by kernel_rfl) rfl envOk (oracle_ok k42_0) mixed v42_0 F42_0 w42_0 [(.ptr 0 0 47 [.keep])] [[(.ptr 0 0 47 [.keep])]] (by kernel_rfl) [] 4000 L42_0 (by kernel_rfl)
    (fun _ h => nomatch h) (fun v _ h => ⟨0, (e42_0 _ v).trans h⟩) (fun _ => by kernel_rfl) (fun _ => by kernel_rfl) (fun _ _ => by kernel_rfl)
/- (*chicane/fx.M).Add -/
abbrev A47_0 : Type := (Int × Int) × Bool
abbrev R47_0 : Type := Int × Bool
def v47_0 : Pk G ((Int × Int) × Bool) := (pk (Sh.snd (Sh.cons (Sh.ptr 0 0) (Sh.cons (Sh.int .i64) (Sh.fst (Sh.cons (Sh.int .i64) Sh.nil))))) (Sh.fst (Sh.hfix 0 47 (Sh.fst (Sh.cons Sh.bool Sh.nil)) Sh.hnil)))
def w47_0 : Wk G (Int × Bool) := (Wk.one [.keep] (pk (Sh.fst (Sh.cons (Sh.int .i64) Sh.nil)) (Sh.fst (Sh.hfix 0 47 (Sh.fst (Sh.cons Sh.bool Sh.nil)) Sh.hnil))))
def F47_0 (v : (Int × Int) × Bool) : Option (Int × Bool) :=
  (F69_0 v.1.1).bind fun r632 =>
  (F69_0 v.1.2).bind fun r633 =>
  (F70_0 (r632, r633)).bind fun r634 =>
  (F71_0 (r634.1, v.2)).bind fun r635 =>
  some (r635)

noncomputable def k47_0 : List (Known Tryz.prog E) := [Known.of envOk [1] [.keep] v69_0 F69_0 w69_0 ok69_0, Known.of envOk [9, 9] [(.agg [.keep, .keep]), (.agg [.keep, .keep])] v70_0 F70_0 w70_0 ok70_0, Known.of envOk [9, 172] [(.agg [.keep, .keep]), (.fn (.func 72) [(.ptr 0 0 47 [.keep])] [])] v71_0 F71_0 w71_0 ok71_0]
noncomputable def L47_0 (n id : Nat) (st : St G) : Option (Int × Bool) := none
set_option maxRecDepth 100000 in
theorem e47_0 (n : Nat) (v : (Int × Int) × Bool) : ev Tryz.prog E (oracle k47_0) Tryz.f47.ntmps (fun x => mem x []) (L47_0 n) (finF Tryz.prog E Tryz.f47.results.toList [[(.ptr 0 0 47 [.keep])]] w47_0.alts) 4000 [.code (Tryz.f47.body.getD .skip)] (argSt (v47_0.enc v)) = F47_0 v := by kernel_rfl
theorem ok47_0 : FnOk Tryz.prog E 47 v47_0.enc F47_0 w47_0.enc :=
  fn_known (fn := Tryz.f47) (c := (Tryz.f47.body.getD .skip)) Tryz.func47 (by kernel_rfl) rfl envOk (oracle_ok k47_0) mixed v47_0 F47_0 w47_0 [(.ptr 0 0 47 [.keep])] [[(.ptr 0 0 47 [.keep])]] (by kernel_rfl) [] 4000 L47_0 (by kernel_rfl)
    (fun _ h => nomatch h) (fun v _ h => ⟨0, (e47_0 _ v).trans h⟩) (fun _ => by kernel_rfl) (fun _ => by kernel_rfl) (fun _ _ => by kernel_rfl)
/- chicane/vec.each -/
abbrev A64_2 : Type := ((Int × Int × Int) × Int × Int × Int) × Bool
abbrev R64_2 : Type := (Int × Int × Int) × Bool
def v64_2 : Pk G (((Int × Int × Int) × Int × Int × Int) × Bool) := (pk (Sh.cons (Sh.agg (Sh.cons (Sh.int .i64) (Sh.cons (Sh.int .i64) (Sh.fst (Sh.cons (Sh.int .i64) Sh.nil))))) (Sh.fst (Sh.cons (Sh.agg (Sh.cons (Sh.int .i64) (Sh.cons (Sh.int .i64) (Sh.fst (Sh.cons (Sh.int .i64) Sh.nil))))) (Sh.snd (Sh.cons (Sh.snd (Sh.fn (.func 47) (Sh.snd (Sh.cons (Sh.ptr 0 0) Sh.nil)) Sh.nil)) Sh.nil))))) (Sh.fst (Sh.hfix 0 47 (Sh.fst (Sh.cons Sh.bool Sh.nil)) Sh.hnil)))
def w64_2 : Wk G ((Int × Int × Int) × Bool) := (Wk.one [(.agg [.keep, .keep, .keep])] (pk (Sh.fst (Sh.cons (Sh.agg (Sh.cons (Sh.int .i64) (Sh.cons (Sh.int .i64) (Sh.fst (Sh.cons (Sh.int .i64) Sh.nil))))) Sh.nil)) (Sh.fst (Sh.hfix 0 47 (Sh.fst (Sh.cons Sh.bool Sh.nil)) Sh.hnil))))
def F64_2 (v : ((Int × Int × Int) × Int × Int × Int) × Bool) : Option ((Int × Int × Int) × Bool) :=
  (F47_0 ((v.1.1.1, v.1.2.1), v.2)).bind fun r642 =>
  (F47_0 ((v.1.1.2.1, v.1.2.2.1), r642.2)).bind fun r643 =>
  (F47_0 ((v.1.1.2.2, v.1.2.2.2), r643.2)).bind fun r644 =>
  some ((r642.1, (r643.1, r644.1)), r644.2)

noncomputable def k64_2 : List (Known Tryz.prog E) := [Known.of envOk [5, 1, 1] [(.ptr 0 0 47 [.keep]), .keep, .keep] v47_0 F47_0 w47_0 ok47_0]
noncomputable def L64_2 (n id : Nat) (st : St G) : Option ((Int × Int × Int) × Bool) := none
set_option maxRecDepth 100000 in
theorem e64_2 (n : Nat) (v : ((Int × Int × Int) × Int × Int × Int) × Bool) : ev Tryz.prog E (oracle k64_2) Tryz.f64.ntmps (fun x => mem x []) (L64_2 n) (finF Tryz.prog E Tryz.f64.results.toList [[(.ptr 0 0 47 [.keep])]] w64_2.alts) 4000 [.code (Tryz.f64.body.getD .skip)] (argSt (v64_2.enc v)) = F64_2 v := by kernel_rfl
theorem ok64_2 : FnOk Tryz.prog E 64 v64_2.enc F64_2 w64_2.enc :=
  fn_known (fn := Tryz.f64) (c := (Tryz.f64.body.getD .skip)) Tryz.func64 (by kernel_rfl) rfl envOk (oracle_ok k64_2) mixed v64_2 F64_2 w64_2 [(.ptr 0 0 47 [.keep])] [[(.ptr 0 0 47 [.keep])]] (by kernel_rfl) [] 4000 L64_2 (by kernel_rfl)
    (fun _ h => nomatch h) (fun v _ h => ⟨0, (e64_2 _ v).trans h⟩) (fun _ => by kernel_rfl) (fun _ => by kernel_rfl) (fun _ _ => by kernel_rfl)
/- chicane/vec.Add -/
abbrev A41_0 : Type := ((Int × Int × Int) × Int × Int × Int) × Bool
abbrev R41_0 : Type := (Int × Int × Int) × Bool
def v41_0 : Pk G (((Int × Int × Int) × Int × Int × Int) × Bool) := (pk (Sh.snd (Sh.cons (Sh.ptr 0 0) (Sh.cons (Sh.agg (Sh.cons (Sh.int .i64) (Sh.cons (Sh.int .i64) (Sh.fst (Sh.cons (Sh.int .i64) Sh.nil))))) (Sh.fst (Sh.cons (Sh.agg (Sh.cons (Sh.int .i64) (Sh.cons (Sh.int .i64) (Sh.fst (Sh.cons (Sh.int .i64) Sh.nil))))) Sh.nil))))) (Sh.fst (Sh.hfix 0 47 (Sh.fst (Sh.cons Sh.bool Sh.nil)) Sh.hnil)))
def w41_0 : Wk G ((Int × Int × Int) × Bool) := (Wk.one [(.agg [.keep, .keep, .keep])] (pk (Sh.fst (Sh.cons (Sh.agg (Sh.cons (Sh.int .i64) (Sh.cons (Sh.int .i64) (Sh.fst (Sh.cons (Sh.int .i64) Sh.nil))))) Sh.nil)) (Sh.fst (Sh.hfix 0 47 (Sh.fst (Sh.cons Sh.bool Sh.nil)) Sh.hnil))))
def F41_0 (v : ((Int × Int × Int) × Int × Int × Int) × Bool) : Option ((Int × Int × Int) × Bool) :=
  (F64_2 v).bind fun r647 =>
  some (r647)

noncomputable def k41_0 : List (Known Tryz.prog E) := [Known.of envOk [9, 9, 147] [(.agg [.keep, .keep, .keep]), (.agg [.keep, .keep, .keep]), (.fn (.func 47) [(.ptr 0 0 47 [.keep])] [])] v64_2 F64_2 w64_2 ok64_2]
noncomputable def L41_0 (n id : Nat) (st : St G) : Option ((Int × Int × Int) × Bool) := none
set_option maxRecDepth 100000 in
theorem e41_0 (n : Nat) (v : ((Int × Int × Int) × Int × Int × Int) × Bool) : ev Tryz.prog E (oracle k41_0) Tryz.f41.ntmps (fun x => mem x []) (L41_0 n) (finF Tryz.prog E Tryz.f41.results.toList [[(.ptr 0 0 47 [.keep])]] w41_0.alts) 4000 [.code (Tryz.f41.body.getD .skip)] (argSt (v41_0.enc v)) = F41_0 v := by kernel_rfl
theorem ok41_0 : FnOk Tryz.prog E 41 v41_0.enc F41_0 w41_0.enc :=
  fn_known (fn := Tryz.f41) (c := (Tryz.f41.body.getD .skip)) Tryz.func41 (by kernel_rfl) rfl envOk (oracle_ok k41_0) mixed v41_0 F41_0 w41_0 [(.ptr 0 0 47 [.keep])] [[(.ptr 0 0 47 [.keep])]] (by kernel_rfl) [] 4000 L41_0 (by kernel_rfl)
    (fun _ h => nomatch h) (fun v _ h => ⟨0, (e41_0 _ v).trans h⟩) (fun _ => by kernel_rfl) (fun _ => by kernel_rfl) (fun _ _ => by kernel_rfl)
/- chicane/ray.Point -/
abbrev A23_0 : Type := ((Int × Int × Int) × (Int × Int × Int) × Int) × Bool
abbrev R23_0 : Type := (Int × Int × Int) × Bool
def v23_0 : Pk G (((Int × Int × Int) × (Int × Int × Int) × Int) × Bool) := (pk (Sh.snd (Sh.cons (Sh.ptr 0 0) (Sh.cons (Sh.agg (Sh.cons (Sh.int .i64) (Sh.cons (Sh.int .i64) (Sh.fst (Sh.cons (Sh.int .i64) Sh.nil))))) (Sh.cons (Sh.agg (Sh.cons (Sh.int .i64) (Sh.cons (Sh.int .i64) (Sh.fst (Sh.cons (Sh.int .i64) Sh.nil))))) (Sh.fst (Sh.cons (Sh.int .i64) Sh.nil)))))) (Sh.fst (Sh.hfix 0 47 (Sh.fst (Sh.cons Sh.bool Sh.nil)) Sh.hnil)))
def w23_0 : Wk G ((Int × Int × Int) × Bool) := (Wk.one [(.agg [.keep, .keep, .keep])] (pk (Sh.fst (Sh.cons (Sh.agg (Sh.cons (Sh.int .i64) (Sh.cons (Sh.int .i64) (Sh.fst (Sh.cons (Sh.int .i64) Sh.nil))))) Sh.nil)) (Sh.fst (Sh.hfix 0 47 (Sh.fst (Sh.cons Sh.bool Sh.nil)) Sh.hnil))))
def F23_0 (v : ((Int × Int × Int) × (Int × Int × Int) × Int) × Bool) : Option ((Int × Int × Int) × Bool) :=
  (F42_0 (v.1.2, v.2)).bind fun r651 =>
  (F41_0 ((v.1.1, r651.1), r651.2)).bind fun r652 =>
  some (r652)

noncomputable def k23_0 : List (Known Tryz.prog E) := [Known.of envOk [5, 9, 1] [(.ptr 0 0 47 [.keep]), (.agg [.keep, .keep, .keep]), .keep] v42_0 F42_0 w42_0 ok42_0, Known.of envOk [5, 9, 9] [(.ptr 0 0 47 [.keep]), (.agg [.keep, .keep, .keep]), (.agg [.keep, .keep, .keep])] v41_0 F41_0 w41_0 ok41_0]
noncomputable def L23_0 (n id : Nat) (st : St G) : Option ((Int × Int × Int) × Bool) := none
set_option maxRecDepth 100000 in
theorem e23_0 (n : Nat) (v : ((Int × Int × Int) × (Int × Int × Int) × Int) × Bool) : ev Tryz.prog E (oracle k23_0) Tryz.f23.ntmps (fun x => mem x []) (L23_0 n) (finF Tryz.prog E Tryz.f23.results.toList [[(.ptr 0 0 47 [.keep])]] w23_0.alts) 4000 [.code (Tryz.f23.body.getD .skip)] (argSt (v23_0.enc v)) = F23_0 v := by kernel_rfl
theorem ok23_0 : FnOk Tryz.prog E 23 v23_0.enc F23_0 w23_0.enc :=
  fn_known (fn := Tryz.f23) (c := (Tryz.f23.body.getD .skip)) Tryz.func23 (by kernel_rfl) rfl envOk (oracle_ok k23_0) mixed v23_0 F23_0 w23_0 [(.ptr 0 0 47 [.keep])] [[(.ptr 0 0 47 [.keep])]] (by kernel_rfl) [] 4000 L23_0 (by kernel_rfl)
    (fun _ h => nomatch h) (fun v _ h => ⟨0, (e23_0 _ v).trans h⟩) (fun _ => by kernel_rfl) (fun _ => by kernel_rfl) (fun _ _ => by kernel_rfl)
/- (*chicane/field.Field).Side -/
abbrev A24_0 : Type := (Int × Int × Int × Int × Int) × List Int × List Int
abbrev R24_0 : Type := Int × (Int × Int × Int × Int × Int) × List Int × List Int
def v24_0 : Pk G ((Int × Int × Int × Int × Int) × List Int × List Int) := (Pk.snd (pk (Sh.snd (Sh.cons (Sh.ptr 0 0) Sh.nil)) (Sh.hfix 0 61 (Sh.cons (Sh.int .i64) (Sh.cons (Sh.int .i64) (Sh.cons (Sh.int .i64) (Sh.cons (Sh.int .i64) (Sh.fst (Sh.cons (Sh.int .i64) (Sh.snd (Sh.cons (Sh.osl 1) (Sh.snd (Sh.cons (Sh.osl 2) Sh.nil)))))))))) (Sh.hrow 2 3 (Sh.fst (Sh.hrow 1 22 Sh.hnil))))))
def w24_0 : Wk G (Int × (Int × Int × Int × Int × Int) × List Int × List Int) := (Wk.one [.keep] (pk (Sh.fst (Sh.cons (Sh.int .i64) Sh.nil)) (Sh.hfix 0 61 (Sh.cons (Sh.int .i64) (Sh.cons (Sh.int .i64) (Sh.cons (Sh.int .i64) (Sh.cons (Sh.int .i64) (Sh.fst (Sh.cons (Sh.int .i64) (Sh.snd (Sh.cons (Sh.osl 1) (Sh.snd (Sh.cons (Sh.osl 2) Sh.nil)))))))))) (Sh.hrow 1 22 (Sh.fst (Sh.hrow 2 3 Sh.hnil))))))
def F24_0 (v : (Int × Int × Int × Int × Int) × List Int × List Int) : Option (Int × (Int × Int × Int × Int × Int) × List Int × List Int) :=
  some (v.1.1, (v.1, (v.2.2, v.2.1)))

noncomputable def k24_0 : List (Known Tryz.prog E) := []
noncomputable def L24_0 (n id : Nat) (st : St G) : Option (Int × (Int × Int × Int × Int × Int) × List Int × List Int) := none
set_option maxRecDepth 100000 in
theorem e24_0 (n : Nat) (v : (Int × Int × Int × Int × Int) × List Int × List Int) : ev Tryz.prog E (oracle k24_0) Tryz.f24.ntmps (fun x => mem x []) (L24_0 n) (finF Tryz.prog E Tryz.f24.results.toList [[(.own 2 3), (.own 1 22), (.ptr 0 0 61 [.keep, .keep, .keep, .keep, .keep, (.own 1 22), (.own 2 3)])]] w24_0.alts) 4000 [.code (Tryz.f24.body.getD .skip)] (argSt (v24_0.enc v)) = F24_0 v := by kernel_rfl
theorem ok24_0 : FnOk Tryz.prog E 24 v24_0.enc F24_0 w24_0.enc :=
  fn_known (fn := Tryz.f24) (c := (Tryz.f24.body.getD .skip)) Tryz.func24 (by kernel_rfl) rfl envOk (oracle_ok k24_0) mixed v24_0 F24_0 w24_0 [(.own 2 3), (.own 1 22), (.ptr 0 0 61 [.keep, .keep, .keep, .keep, .keep, (.own 1 22), (.own 2 3)])] [[(.own 2 3), (.own 1 22), (.ptr 0 0 61 [.keep, .keep, .keep, .keep, .keep, (.own 1 22), (.own 2 3)])]] (by kernel_rfl) [] 4000 L24_0 (by kernel_rfl)
    (fun _ h => nomatch h) (fun v _ h => ⟨0, (e24_0 _ v).trans h⟩) (fun _ => by kernel_rfl) (fun _ => by kernel_rfl) (fun _ _ => by kernel_rfl)
/- chicane/ray.parts -/
abbrev A43_0 : Type := (Int × Int)
abbrev R43_0 : Type := Int × Int
def v43_0 : Pk G ((Int × Int)) := (Pk.fst (pk (Sh.fst (Sh.cons Sh.cpx Sh.nil)) Sh.hnil))
def w43_0 : Wk G (Int × Int) := (Wk.one [.keep, .keep] (Pk.fst (pk (Sh.cons (Sh.int .i64) (Sh.fst (Sh.cons (Sh.int .i64) Sh.nil))) Sh.hnil)))
def F43_0 (v : (Int × Int)) : Option (Int × Int) :=
  (chk (decide (IntKind.min .i64 ≤ v.1 ∧ v.1 ≤ IntKind.max .i64))).bind fun _ =>
  (chk (decide (IntKind.min .i64 ≤ v.2 ∧ v.2 ≤ IntKind.max .i64))).bind fun _ =>
  some (v)

noncomputable def k43_0 : List (Known Tryz.prog E) := []
noncomputable def L43_0 (n id : Nat) (st : St G) : Option (Int × Int) := none
set_option maxRecDepth 100000 in
theorem e43_0 (n : Nat) (v : (Int × Int)) : ev Tryz.prog E (oracle k43_0) Tryz.f43.ntmps (fun x => mem x []) (L43_0 n) (finF Tryz.prog E Tryz.f43.results.toList [[]] w43_0.alts) 4000 [.code (Tryz.f43.body.getD .skip)] (argSt (v43_0.enc v)) = F43_0 v := by kernel_rfl
theorem ok43_0 : FnOk Tryz.prog E 43 v43_0.enc F43_0 w43_0.enc :=
  fn_known (fn := Tryz.f43) (c := (Tryz.f43.body.getD .skip)) Tryz.func43 (by kernel_rfl) rfl envOk (oracle_ok k43_0) mixed v43_0 F43_0 w43_0 [] [[]] (by kernel_rfl) [] 4000 L43_0 (by kernel_rfl)
    (fun _ h => nomatch h) (fun v _ h => ⟨0, (e43_0 _ v).trans h⟩) (fun _ => by kernel_rfl) (fun _ => by kernel_rfl) (fun _ _ => by kernel_rfl)
/- (*chicane/field.Field).at -/
abbrev A67_0 : Type := (Int × Int) × (Int × Int × Int × Int × Int) × List Int × List Int
abbrev R67_0 : Type := (Int × Bool) × (Int × Int × Int × Int × Int) × List Int × List Int
def v67_0 : Pk G ((Int × Int) × (Int × Int × Int × Int × Int) × List Int × List Int) := (pk (Sh.snd (Sh.cons (Sh.ptr 0 0) (Sh.cons (Sh.int .i64) (Sh.fst (Sh.cons (Sh.int .i64) Sh.nil))))) (Sh.hfix 0 61 (Sh.cons (Sh.int .i64) (Sh.cons (Sh.int .i64) (Sh.cons (Sh.int .i64) (Sh.cons (Sh.int .i64) (Sh.fst (Sh.cons (Sh.int .i64) (Sh.snd (Sh.cons (Sh.osl 1) (Sh.snd (Sh.cons (Sh.osl 2) Sh.nil)))))))))) (Sh.hrow 2 3 (Sh.fst (Sh.hrow 1 22 Sh.hnil)))))
def w67_0 : Wk G ((Int × Bool) × (Int × Int × Int × Int × Int) × List Int × List Int) := (Wk.one [.keep, .keep] (pk (Sh.cons (Sh.int .i64) (Sh.fst (Sh.cons Sh.bool Sh.nil))) (Sh.hfix 0 61 (Sh.cons (Sh.int .i64) (Sh.cons (Sh.int .i64) (Sh.cons (Sh.int .i64) (Sh.cons (Sh.int .i64) (Sh.fst (Sh.cons (Sh.int .i64) (Sh.snd (Sh.cons (Sh.osl 1) (Sh.snd (Sh.cons (Sh.osl 2) Sh.nil)))))))))) (Sh.hrow 1 22 (Sh.fst (Sh.hrow 2 3 Sh.hnil))))))
def F67_0 (v : (Int × Int) × (Int × Int × Int × Int × Int) × List Int × List Int) : Option ((Int × Bool) × (Int × Int × Int × Int × Int) × List Int × List Int) :=
  let x678 : Int := (if v.1.2 < v.1.1 then v.1.2 else v.1.1)
  bif (decide (x678 < (0 : Int))) then
    some (((0 : Int), false), (v.2.1, (v.2.2.2, v.2.2.1)))
  else
    bif (decide (v.1.1 ≥ v.2.1.2.1)) then
      some (((0 : Int), false), (v.2.1, (v.2.2.2, v.2.2.1)))
    else
      bif (decide (v.1.2 ≥ v.2.1.2.2.1)) then
        some (((0 : Int), false), (v.2.1, (v.2.2.2, v.2.2.1)))
      else
        let x679 : Int := (IntKind.wrap .i64 (v.2.1.2.1 + (1 : Int)))
        let x680 : Int := (IntKind.wrap .i64 (v.1.2 * x679))
        let x681 : Int := (IntKind.wrap .i64 (x680 + v.1.1))
        some ((x681, true), (v.2.1, (v.2.2.2, v.2.2.1)))

noncomputable def k67_0 : List (Known Tryz.prog E) := []
noncomputable def L67_0 (n id : Nat) (st : St G) : Option ((Int × Bool) × (Int × Int × Int × Int × Int) × List Int × List Int) := none
set_option maxRecDepth 100000 in
theorem e67_0 (n : Nat) (v : (Int × Int) × (Int × Int × Int × Int × Int) × List Int × List Int) : ev Tryz.prog E (oracle k67_0) Tryz.f67.ntmps (fun x => mem x []) (L67_0 n) (finF Tryz.prog E Tryz.f67.results.toList [[(.own 2 3), (.own 1 22), (.ptr 0 0 61 [.keep, .keep, .keep, .keep, .keep, (.own 1 22), (.own 2 3)])]] w67_0.alts) 4000 [.code (Tryz.f67.body.getD .skip)] (argSt (v67_0.enc v)) = F67_0 v := by kernel_rfl
theorem ok67_0 : FnOk Tryz.prog E 67 v67_0.enc F67_0 w67_0.enc :=
  fn_known (fn := Tryz.f67) (c := (Tryz.f67.body.getD .skip)) Tryz.func67 (by kernel_rfl) rfl envOk (oracle_ok k67_0) mixed v67_0 F67_0 w67_0 [(.own 2 3), (.own 1 22), (.ptr 0 0 61 [.keep, .keep, .keep, .keep, .keep, (.own 1 22), (.own 2 3)])] [[(.own 2 3), (.own 1 22), (.ptr 0 0 61 [.keep, .keep, .keep, .keep, .keep, (.own 1 22), (.own 2 3)])]] (by kernel_rfl) [] 4000 L67_0 (by kernel_rfl)
    (fun _ h => nomatch h) (fun v _ h => ⟨0, (e67_0 _ v).trans h⟩) (fun _ => by kernel_rfl) (fun _ => by kernel_rfl) (fun _ _ => by kernel_rfl)
/- (*chicane/fx.M).nought -/
abbrev A74_0 : Type := Int × Bool
abbrev R74_0 : Type := Int × Bool
def v74_0 : Pk G (Int × Bool) := (pk (Sh.snd (Sh.cons (Sh.ptr 0 0) (Sh.fst (Sh.cons (Sh.int .i64) Sh.nil)))) (Sh.fst (Sh.hfix 0 47 (Sh.fst (Sh.cons Sh.bool Sh.nil)) Sh.hnil)))
def w74_0 : Wk G (Int × Bool) := (Wk.one [.keep] (pk (Sh.fst (Sh.cons (Sh.int .i64) Sh.nil)) (Sh.fst (Sh.hfix 0 47 (Sh.fst (Sh.cons Sh.bool Sh.nil)) Sh.hnil))))
def F74_0 (v : Int × Bool) : Option (Int × Bool) :=
  (F72_0 ((decide (v.1 < (0 : Int))), v.2)).bind fun r697 =>
  bif (v.1 == (0 : Int)) then
    some ((0 : Int), r697.2)
  else
    some (r697)

noncomputable def k74_0 : List (Known Tryz.prog E) := [Known.of envOk [5, 2] [(.ptr 0 0 47 [.keep]), .keep] v72_0 F72_0 w72_0 ok72_0]
noncomputable def L74_0 (n id : Nat) (st : St G) : Option (Int × Bool) := none
set_option maxRecDepth 100000 in
theorem e74_0 (n : Nat) (v : Int × Bool) : ev Tryz.prog E (oracle k74_0) Tryz.f74.ntmps (fun x => mem x []) (L74_0 n) (finF Tryz.prog E Tryz.f74.results.toList [[(.ptr 0 0 47 [.keep])]] w74_0.alts) 4000 [.code (Tryz.f74.body.getD .skip)] (argSt (v74_0.enc v)) = F74_0 v := by kernel_rfl
theorem ok74_0 : FnOk Tryz.prog E 74 v74_0.enc F74_0 w74_0.enc :=
  fn_known (fn := Tryz.f74) (c := (Tryz.f74.body.getD .skip)) Tryz.func74 (by kernel_rfl) rfl envOk (oracle_ok k74_0) mixed v74_0 F74_0 w74_0 [(.ptr 0 0 47 [.keep])] [[(.ptr 0 0 47 [.keep])]] (by kernel_rfl) [] 4000 L74_0 (by kernel_rfl)
    (fun _ h => nomatch h) (fun v _ h => ⟨0, (e74_0 _ v).trans h⟩) (fun _ => by kernel_rfl) (fun _ => by kernel_rfl) (fun _ _ => by kernel_rfl)
/- math/bits.Sub64 -/
abbrev A85_x : Type := Int × Int × Int
abbrev R85_x : Type := Int × Int
def v85_x : Pk G (Int × Int × Int) := p3u
def w85_x : Wk G (Int × Int) := Wk.one [.keep, .keep] p2u
def F85_x (v : Int × Int × Int) : Option (Int × Int) := sub64F v
theorem ok85_x : FnOk Tryz.prog E 85 v85_x.enc F85_x w85_x.enc := sub64_known Tryz.func85 (by kernel_rfl) (by kernel_rfl) (by kernel_rfl) (by kernel_rfl)
/- chicane/wide.sized -/
abbrev A88_0 : Type := Int × Int
abbrev R88_0 : Type := (Int × Int) × Bool
def v88_0 : Pk G (Int × Int) := (Pk.fst (pk (Sh.fst (Sh.cons (Sh.agg (Sh.cons (Sh.int .i64) (Sh.fst (Sh.cons (Sh.int .u64) Sh.nil)))) Sh.nil)) Sh.hnil))
def w88_0 : Wk G ((Int × Int) × Bool) := (Wk.one [(.agg [.keep, .keep]), .keep] (Pk.fst (pk (Sh.cons (Sh.agg (Sh.cons (Sh.int .u64) (Sh.fst (Sh.cons (Sh.int .u64) Sh.nil)))) (Sh.fst (Sh.cons Sh.bool Sh.nil))) Sh.hnil)))
def F88_0 (v : Int × Int) : Option ((Int × Int) × Bool) :=
  bif (decide (v.1 ≥ (0 : Int))) then
    let x710 : Int := (IntKind.wrap .u64 v.1)
    some ((x710, v.2), false)
  else
    (F85_x ((0 : Int), (v.2, (0 : Int)))).bind fun r711 =>
    let x712 : Int := (IntKind.wrap .u64 v.1)
    (F85_x ((0 : Int), (x712, r711.2))).bind fun r713 =>
    some ((r713.1, r711.1), true)

noncomputable def k88_0 : List (Known Tryz.prog E) := [Known.of envOk [1, 1, 1] [.keep, .keep, .keep] v85_x F85_x w85_x ok85_x]
noncomputable def L88_0 (n id : Nat) (st : St G) : Option ((Int × Int) × Bool) := none
set_option maxRecDepth 100000 in
theorem e88_0 (n : Nat) (v : Int × Int) : ev Tryz.prog E (oracle k88_0) Tryz.f88.ntmps (fun x => mem x []) (L88_0 n) (finF Tryz.prog E Tryz.f88.results.toList [[]] w88_0.alts) 4000 [.code (Tryz.f88.body.getD .skip)] (argSt (v88_0.enc v)) = F88_0 v := by kernel_rfl
theorem ok88_0 : FnOk Tryz.prog E 88 v88_0.enc F88_0 w88_0.enc :=
  fn_known (fn := Tryz.f88) (c := (Tryz.f88.body.getD .skip)) Tryz.func88 (by kernel_rfl) rfl envOk (oracle_ok k88_0) mixed v88_0 F88_0 w88_0 [] [[]] (by kernel_rfl) [] 4000 L88_0 (by kernel_rfl)
    (fun _ h => nomatch h) (fun v _ h => ⟨0, (e88_0 _ v).trans h⟩) (fun _ => by kernel_rfl) (fun _ => by kernel_rfl) (fun _ _ => by kernel_rfl)
/- math/bits.Len64 -/
abbrev A96_0 : Type := Int
abbrev R96_0 : Type := Int
def v96_0 : Pk G Int := (Pk.fst (pk (Sh.fst (Sh.cons (Sh.int .u64) Sh.nil)) Sh.hnil))
def w96_0 : Wk G Int := (Wk.one [.keep] (Pk.fst (pk (Sh.fst (Sh.cons (Sh.int .i64) Sh.nil)) Sh.hnil)))
def F96_0 (v : Int) : Option Int :=
  bif (decide (v ≥ (4294967296 : Int))) then
    let x797 : Int := (Int.fdiv v (2 ^ 32))
    bif (decide (x797 ≥ (65536 : Int))) then
      let x798 : Int := (Int.fdiv x797 (2 ^ 16))
      bif (decide (x798 ≥ (256 : Int))) then
        let x799 : Int := (Int.fdiv x798 (2 ^ 8))
        let x800 : Int := (IntKind.wrap .u8 x799)
        (rdb sc0 x800).bind fun (x801 : UInt8) =>
        let x802 : Int := (IntKind.wrap .i64 (x801.toNat : Int))
        let x803 : Int := (IntKind.wrap .i64 ((56 : Int) + x802))
        some (x803)
      else
        let x804 : Int := (IntKind.wrap .u8 x798)
        (rdb sc0 x804).bind fun (x805 : UInt8) =>
        let x806 : Int := (IntKind.wrap .i64 (x805.toNat : Int))
        let x807 : Int := (IntKind.wrap .i64 ((48 : Int) + x806))
        some (x807)
    else
      bif (decide (x797 ≥ (256 : Int))) then
        let x808 : Int := (Int.fdiv x797 (2 ^ 8))
        let x809 : Int := (IntKind.wrap .u8 x808)
        (rdb sc0 x809).bind fun (x810 : UInt8) =>
        let x811 : Int := (IntKind.wrap .i64 (x810.toNat : Int))
        let x812 : Int := (IntKind.wrap .i64 ((40 : Int) + x811))
        some (x812)
      else
        let x813 : Int := (IntKind.wrap .u8 x797)
        (rdb sc0 x813).bind fun (x814 : UInt8) =>
        let x815 : Int := (IntKind.wrap .i64 (x814.toNat : Int))
        let x816 : Int := (IntKind.wrap .i64 ((32 : Int) + x815))
        some (x816)
  else
    bif (decide (v ≥ (65536 : Int))) then
      let x817 : Int := (Int.fdiv v (2 ^ 16))
      bif (decide (x817 ≥ (256 : Int))) then
        let x818 : Int := (Int.fdiv x817 (2 ^ 8))
        let x819 : Int := (IntKind.wrap .u8 x818)
        (rdb sc0 x819).bind fun (x820 : UInt8) =>
        let x821 : Int := (IntKind.wrap .i64 (x820.toNat : Int))
        let x822 : Int := (IntKind.wrap .i64 ((24 : Int) + x821))
        some (x822)
      else
        let x823 : Int := (IntKind.wrap .u8 x817)
        (rdb sc0 x823).bind fun (x824 : UInt8) =>
        let x825 : Int := (IntKind.wrap .i64 (x824.toNat : Int))
        let x826 : Int := (IntKind.wrap .i64 ((16 : Int) + x825))
        some (x826)
    else
      bif (decide (v ≥ (256 : Int))) then
        let x827 : Int := (Int.fdiv v (2 ^ 8))
        let x828 : Int := (IntKind.wrap .u8 x827)
        (rdb sc0 x828).bind fun (x829 : UInt8) =>
        let x830 : Int := (IntKind.wrap .i64 (x829.toNat : Int))
        let x831 : Int := (IntKind.wrap .i64 ((8 : Int) + x830))
        some (x831)
      else
        let x832 : Int := (IntKind.wrap .u8 v)
        (rdb sc0 x832).bind fun (x833 : UInt8) =>
        let x834 : Int := (IntKind.wrap .i64 (x833.toNat : Int))
        let x835 : Int := (IntKind.wrap .i64 ((0 : Int) + x834))
        some (x835)

noncomputable def k96_0 : List (Known Tryz.prog E) := []
noncomputable def L96_0 (n id : Nat) (st : St G) : Option Int := none
set_option maxRecDepth 100000 in
theorem e96_0 (n : Nat) (v : Int) : ev Tryz.prog E (oracle k96_0) Tryz.f96.ntmps (fun x => mem x []) (L96_0 n) (finF Tryz.prog E Tryz.f96.results.toList [[]] w96_0.alts) 4000 [.code (Tryz.f96.body.getD .skip)] (argSt (v96_0.enc v)) = F96_0 v := by kernel_rfl
theorem ok96_0 : FnOk Tryz.prog E 96 v96_0.enc F96_0 w96_0.enc :=
  fn_known (fn := Tryz.f96) (c := (Tryz.f96.body.getD .skip)) Tryz.func96 (by kernel_rfl) rfl envOk (oracle_ok k96_0) mixed v96_0 F96_0 w96_0 [] [[]] (by kernel_rfl) [] 4000 L96_0 (by kernel_rfl)
    (fun _ h => nomatch h) (fun v _ h => ⟨0, (e96_0 _ v).trans h⟩) (fun _ => by kernel_rfl) (fun _ => by kernel_rfl) (fun _ _ => by kernel_rfl)
/- math/bits.LeadingZeros64 -/
abbrev A93_0 : Type := Int
abbrev R93_0 : Type := Int
def v93_0 : Pk G Int := (Pk.fst (pk (Sh.fst (Sh.cons (Sh.int .u64) Sh.nil)) Sh.hnil))
def w93_0 : Wk G Int := (Wk.one [.keep] (Pk.fst (pk (Sh.fst (Sh.cons (Sh.int .i64) Sh.nil)) Sh.hnil)))
def F93_0 (v : Int) : Option Int :=
  (F96_0 v).bind fun r840 =>
  let x841 : Int := (IntKind.wrap .i64 ((64 : Int) - r840))
  some (x841)

noncomputable def k93_0 : List (Known Tryz.prog E) := [Known.of envOk [1] [.keep] v96_0 F96_0 w96_0 ok96_0]
noncomputable def L93_0 (n id : Nat) (st : St G) : Option Int := none
set_option maxRecDepth 100000 in
theorem e93_0 (n : Nat) (v : Int) : ev Tryz.prog E (oracle k93_0) Tryz.f93.ntmps (fun x => mem x []) (L93_0 n) (finF Tryz.prog E Tryz.f93.results.toList [[]] w93_0.alts) 4000 [.code (Tryz.f93.body.getD .skip)] (argSt (v93_0.enc v)) = F93_0 v := by kernel_rfl
theorem ok93_0 : FnOk Tryz.prog E 93 v93_0.enc F93_0 w93_0.enc :=
  fn_known (fn := Tryz.f93) (c := (Tryz.f93.body.getD .skip)) Tryz.func93 (by kernel_rfl) rfl envOk (oracle_ok k93_0) mixed v93_0 F93_0 w93_0 [] [[]] (by kernel_rfl) [] 4000 L93_0 (by kernel_rfl)
    (fun _ h => nomatch h) (fun v _ h => ⟨0, (e93_0 _ v).trans h⟩) (fun _ => by kernel_rfl) (fun _ => by kernel_rfl) (fun _ _ => by kernel_rfl)
/- math/bits.Div64 -/
abbrev A89_0 : Type := Int × Int × Int
abbrev R89_0 : Type := Int × Int
def v89_0 : Pk G (Int × Int × Int) := (Pk.fst (pk (Sh.cons (Sh.int .u64) (Sh.cons (Sh.int .u64) (Sh.fst (Sh.cons (Sh.int .u64) Sh.nil)))) Sh.hnil))
def w89_0 : Wk G (Int × Int) := (Wk.one [.keep, .keep] (Pk.fst (pk (Sh.cons (Sh.int .u64) (Sh.fst (Sh.cons (Sh.int .u64) Sh.nil))) Sh.hnil)))
def c89_0_17 : Pk G (Int × Int × Int × Int × Int × Int × Int × Int × Int) := (Pk.fst (pk (Sh.cons (Sh.int .u64) (Sh.cons (Sh.int .u64) (Sh.cons (Sh.int .u64) (Sh.cons (Sh.int .u64) (Sh.cons (Sh.int .u64) (Sh.cons (Sh.int .u64) (Sh.cons (Sh.int .u64) (Sh.cons (Sh.int .u64) (Sh.fst (Sh.cons (Sh.int .u64) Sh.nil)))))))))) Sh.hnil))
def c89_0_24 : Pk G (Int × Int × Int × Int × Int × Int × Int × Int × Int) := (Pk.fst (pk (Sh.cons (Sh.int .u64) (Sh.cons (Sh.int .u64) (Sh.cons (Sh.int .u64) (Sh.cons (Sh.int .u64) (Sh.cons (Sh.int .u64) (Sh.cons (Sh.int .u64) (Sh.cons (Sh.int .u64) (Sh.cons (Sh.int .u64) (Sh.fst (Sh.cons (Sh.int .u64) Sh.nil)))))))))) Sh.hnil))
def B89_0_17 (K : ((Int × Int × Int × Int × Int × Int × Int × Int × Int) → Option (Int × Int)) × ((Int × Int × Int × Int × Int × Int × Int × Int × Int) → Option (Int × Int))) (v : Int × Int × Int × Int × Int × Int × Int × Int × Int) : Option (Int × Int) :=
  bif (decide (v.2.2.2.2.2.2.2.1 ≥ (4294967296 : Int))) then
    let x1136 : Int := (IntKind.wrap .u64 (v.2.2.2.2.2.2.2.1 - (1 : Int)))
    let x1137 : Int := (IntKind.wrap .u64 (v.2.2.2.2.2.2.2.2 + v.2.2.1))
    bif (decide (x1137 ≥ (4294967296 : Int))) then
      let x1138 : Int := (IntKind.wrap .u64 (v.2.2.2.2.1 * (4294967296 : Int)))
      let x1139 : Int := (IntKind.wrap .u64 (x1138 + v.2.2.2.2.2.1))
      let x1140 : Int := (IntKind.wrap .u64 (x1136 * v.1))
      let x1141 : Int := (IntKind.wrap .u64 (x1139 - x1140))
      (chk (v.2.2.1 != 0)).bind fun _ =>
      let x1142 : Int := (IntKind.wrap .u64 (Int.tdiv x1141 v.2.2.1))
      let x1143 : Int := (IntKind.wrap .u64 (x1142 * v.2.2.1))
      let x1144 : Int := (IntKind.wrap .u64 (x1141 - x1143))
      K.2 (v.1, (v.2.1, (v.2.2.1, (v.2.2.2.1, (v.2.2.2.2.2.2.1, (x1136, (x1144, (x1141, x1142))))))))
    else
      K.1 (v.1, (v.2.1, (v.2.2.1, (v.2.2.2.1, (v.2.2.2.2.1, (v.2.2.2.2.2.1, (v.2.2.2.2.2.2.1, (x1136, x1137))))))))
  else
    let x1145 : Int := (IntKind.wrap .u64 (v.2.2.2.2.2.2.2.1 * v.2.2.2.1))
    let x1146 : Int := (IntKind.wrap .u64 ((4294967296 : Int) * v.2.2.2.2.2.2.2.2))
    let x1147 : Int := (IntKind.wrap .u64 (x1146 + v.2.2.2.2.2.1))
    bif (decide (x1145 > x1147)) then
      let x1148 : Int := (IntKind.wrap .u64 (v.2.2.2.2.2.2.2.1 - (1 : Int)))
      let x1149 : Int := (IntKind.wrap .u64 (v.2.2.2.2.2.2.2.2 + v.2.2.1))
      bif (decide (x1149 ≥ (4294967296 : Int))) then
        let x1150 : Int := (IntKind.wrap .u64 (v.2.2.2.2.1 * (4294967296 : Int)))
        let x1151 : Int := (IntKind.wrap .u64 (x1150 + v.2.2.2.2.2.1))
        let x1152 : Int := (IntKind.wrap .u64 (x1148 * v.1))
        let x1153 : Int := (IntKind.wrap .u64 (x1151 - x1152))
        (chk (v.2.2.1 != 0)).bind fun _ =>
        let x1154 : Int := (IntKind.wrap .u64 (Int.tdiv x1153 v.2.2.1))
        let x1155 : Int := (IntKind.wrap .u64 (x1154 * v.2.2.1))
        let x1156 : Int := (IntKind.wrap .u64 (x1153 - x1155))
        K.2 (v.1, (v.2.1, (v.2.2.1, (v.2.2.2.1, (v.2.2.2.2.2.2.1, (x1148, (x1156, (x1153, x1154))))))))
      else
        K.1 (v.1, (v.2.1, (v.2.2.1, (v.2.2.2.1, (v.2.2.2.2.1, (v.2.2.2.2.2.1, (v.2.2.2.2.2.2.1, (x1148, x1149))))))))
    else
      let x1157 : Int := (IntKind.wrap .u64 (v.2.2.2.2.1 * (4294967296 : Int)))
      let x1158 : Int := (IntKind.wrap .u64 (x1157 + v.2.2.2.2.2.1))
      let x1159 : Int := (IntKind.wrap .u64 (v.2.2.2.2.2.2.2.1 * v.1))
      let x1160 : Int := (IntKind.wrap .u64 (x1158 - x1159))
      (chk (v.2.2.1 != 0)).bind fun _ =>
      let x1161 : Int := (IntKind.wrap .u64 (Int.tdiv x1160 v.2.2.1))
      let x1162 : Int := (IntKind.wrap .u64 (x1161 * v.2.2.1))
      let x1163 : Int := (IntKind.wrap .u64 (x1160 - x1162))
      K.2 (v.1, (v.2.1, (v.2.2.1, (v.2.2.2.1, (v.2.2.2.2.2.2.1, (v.2.2.2.2.2.2.2.1, (x1163, (x1160, x1161))))))))

def B89_0_24 (K : ((Int × Int × Int × Int × Int × Int × Int × Int × Int) → Option (Int × Int)) × ((Int × Int × Int × Int × Int × Int × Int × Int × Int) → Option (Int × Int))) (v : Int × Int × Int × Int × Int × Int × Int × Int × Int) : Option (Int × Int) :=
  bif (decide (v.2.2.2.2.2.2.2.2 ≥ (4294967296 : Int))) then
    let x1164 : Int := (IntKind.wrap .u64 (v.2.2.2.2.2.2.2.2 - (1 : Int)))
    let x1165 : Int := (IntKind.wrap .u64 (v.2.2.2.2.2.2.1 + v.2.2.1))
    bif (decide (x1165 ≥ (4294967296 : Int))) then
      let x1166 : Int := (IntKind.wrap .u64 (v.2.2.2.2.2.1 * (4294967296 : Int)))
      let x1167 : Int := (IntKind.wrap .u64 (x1166 + x1164))
      let x1168 : Int := (IntKind.wrap .u64 (v.2.2.2.2.2.2.2.1 * (4294967296 : Int)))
      let x1169 : Int := (IntKind.wrap .u64 (x1168 + v.2.2.2.2.1))
      let x1170 : Int := (IntKind.wrap .u64 (x1164 * v.1))
      let x1171 : Int := (IntKind.wrap .u64 (x1169 - x1170))
      (chk (decide (0 ≤ v.2.1))).bind fun _ =>
      let x1172 : Int := (Int.fdiv x1171 (2 ^ min (v.2.1).toNat 64))
      some (x1167, x1172)
    else
      K.2 (v.1, (v.2.1, (v.2.2.1, (v.2.2.2.1, (v.2.2.2.2.1, (v.2.2.2.2.2.1, (x1165, (v.2.2.2.2.2.2.2.1, x1164))))))))
  else
    let x1173 : Int := (IntKind.wrap .u64 (v.2.2.2.2.2.2.2.2 * v.2.2.2.1))
    let x1174 : Int := (IntKind.wrap .u64 ((4294967296 : Int) * v.2.2.2.2.2.2.1))
    let x1175 : Int := (IntKind.wrap .u64 (x1174 + v.2.2.2.2.1))
    bif (decide (x1173 > x1175)) then
      let x1176 : Int := (IntKind.wrap .u64 (v.2.2.2.2.2.2.2.2 - (1 : Int)))
      let x1177 : Int := (IntKind.wrap .u64 (v.2.2.2.2.2.2.1 + v.2.2.1))
      bif (decide (x1177 ≥ (4294967296 : Int))) then
        let x1178 : Int := (IntKind.wrap .u64 (v.2.2.2.2.2.1 * (4294967296 : Int)))
        let x1179 : Int := (IntKind.wrap .u64 (x1178 + x1176))
        let x1180 : Int := (IntKind.wrap .u64 (v.2.2.2.2.2.2.2.1 * (4294967296 : Int)))
        let x1181 : Int := (IntKind.wrap .u64 (x1180 + v.2.2.2.2.1))
        let x1182 : Int := (IntKind.wrap .u64 (x1176 * v.1))
        let x1183 : Int := (IntKind.wrap .u64 (x1181 - x1182))
        (chk (decide (0 ≤ v.2.1))).bind fun _ =>
        let x1184 : Int := (Int.fdiv x1183 (2 ^ min (v.2.1).toNat 64))
        some (x1179, x1184)
      else
        K.2 (v.1, (v.2.1, (v.2.2.1, (v.2.2.2.1, (v.2.2.2.2.1, (v.2.2.2.2.2.1, (x1177, (v.2.2.2.2.2.2.2.1, x1176))))))))
    else
      let x1185 : Int := (IntKind.wrap .u64 (v.2.2.2.2.2.1 * (4294967296 : Int)))
      let x1186 : Int := (IntKind.wrap .u64 (x1185 + v.2.2.2.2.2.2.2.2))
      let x1187 : Int := (IntKind.wrap .u64 (v.2.2.2.2.2.2.2.1 * (4294967296 : Int)))
      let x1188 : Int := (IntKind.wrap .u64 (x1187 + v.2.2.2.2.1))
      let x1189 : Int := (IntKind.wrap .u64 (v.2.2.2.2.2.2.2.2 * v.1))
      let x1190 : Int := (IntKind.wrap .u64 (x1188 - x1189))
      (chk (decide (0 ≤ v.2.1))).bind fun _ =>
      let x1191 : Int := (Int.fdiv x1190 (2 ^ min (v.2.1).toNat 64))
      some (x1186, x1191)

def E89_0 (K : ((Int × Int × Int × Int × Int × Int × Int × Int × Int) → Option (Int × Int)) × ((Int × Int × Int × Int × Int × Int × Int × Int × Int) → Option (Int × Int))) (v : Int × Int × Int) : Option (Int × Int) :=
  bif (v.2.2 == (0 : Int)) then
    none
  else
    bif (decide (v.2.2 ≤ v.1)) then
      none
    else
      bif (v.1 == (0 : Int)) then
        (chk (v.2.2 != 0)).bind fun _ =>
        let x1119 : Int := (IntKind.wrap .u64 (Int.tdiv v.2.1 v.2.2))
        (chk (v.2.2 != 0)).bind fun _ =>
        let x1120 : Int := (Int.tmod v.2.1 v.2.2)
        some (x1119, x1120)
      else
        (F93_0 v.2.2).bind fun r1121 =>
        let x1122 : Int := (IntKind.wrap .u64 r1121)
        (chk (decide (0 ≤ x1122))).bind fun _ =>
        let x1123 : Int := (IntKind.wrap .u64 (v.2.2 * 2 ^ min (x1122).toNat 64))
        let x1124 : Int := (Int.fdiv x1123 (2 ^ 32))
        let x1125 : Int := (Go.bits .and .u64 x1123 (4294967295 : Int))
        (chk (decide (0 ≤ x1122))).bind fun _ =>
        let x1126 : Int := (IntKind.wrap .u64 (v.1 * 2 ^ min (x1122).toNat 64))
        let x1127 : Int := (IntKind.wrap .u64 ((64 : Int) - x1122))
        (chk (decide (0 ≤ x1127))).bind fun _ =>
        let x1128 : Int := (Int.fdiv v.2.1 (2 ^ min (x1127).toNat 64))
        let x1129 : Int := (Go.bits .or .u64 x1126 x1128)
        (chk (decide (0 ≤ x1122))).bind fun _ =>
        let x1130 : Int := (IntKind.wrap .u64 (v.2.1 * 2 ^ min (x1122).toNat 64))
        let x1131 : Int := (Int.fdiv x1130 (2 ^ 32))
        let x1132 : Int := (Go.bits .and .u64 x1130 (4294967295 : Int))
        (chk (x1124 != 0)).bind fun _ =>
        let x1133 : Int := (IntKind.wrap .u64 (Int.tdiv x1129 x1124))
        let x1134 : Int := (IntKind.wrap .u64 (x1133 * x1124))
        let x1135 : Int := (IntKind.wrap .u64 (x1129 - x1134))
        K.1 (x1123, (x1122, (x1124, (x1125, (x1129, (x1131, (x1132, (x1133, x1135))))))))

def K89_0 : Nat → ((Int × Int × Int × Int × Int × Int × Int × Int × Int) → Option (Int × Int)) × ((Int × Int × Int × Int × Int × Int × Int × Int × Int) → Option (Int × Int))
  | 0 => (fun _ => none, fun _ => none)
  | n + 1 => (B89_0_17 (K89_0 n), B89_0_24 (K89_0 n))
def fuel89_0 (v : Int × Int × Int) : Nat := 1000
def F89_0 (v : Int × Int × Int) : Option (Int × Int) := E89_0 (K89_0 (fuel89_0 v)) v
noncomputable def k89_0 : List (Known Tryz.prog E) := [Known.of envOk [1] [.keep] v93_0 F93_0 w93_0 ok93_0]
def s89_0_24 : List (Nat × Pat) := [(2, .keep), (8, .keep), (9, .keep), (10, .keep), (14, .keep), (15, .keep), (16, .keep), (17, .keep), (18, .keep)]
def s89_0_17 : List (Nat × Pat) := [(2, .keep), (8, .keep), (9, .keep), (10, .keep), (11, .keep), (13, .keep), (14, .keep), (15, .keep), (16, .keep)]
noncomputable def L89_0 (n id : Nat) (st : St G) : Option (Int × Int) := match Nat.beq id 17 with | true => cutK Tryz.prog s89_0_17 [] c89_0_17.dec (K89_0 n).1 st | false => match Nat.beq id 24 with | true => cutK Tryz.prog s89_0_24 [] c89_0_24.dec (K89_0 n).2 st | false => none
set_option maxRecDepth 100000 in
theorem e89_0 (n : Nat) (v : Int × Int × Int) : ev Tryz.prog E (oracle k89_0) Tryz.f89.ntmps (fun x => mem x [17, 24]) (L89_0 n) (finF Tryz.prog E Tryz.f89.results.toList [[]] w89_0.alts) 4000 [.code (Tryz.f89.body.getD .skip)] (argSt (v89_0.enc v)) = E89_0 (K89_0 n) v := by kernel_rfl
set_option maxRecDepth 100000 in
theorem b89_0_17 (n : Nat) (v : Int × Int × Int × Int × Int × Int × Int × Int × Int) : evCut Tryz.prog E (oracle k89_0) false 89 Tryz.f89.ntmps (fun x => mem x [17, 24]) (L89_0 n) (finF Tryz.prog E Tryz.f89.results.toList [[]] w89_0.alts) 4000 (todoAt (Tryz.f89.body.getD .skip) 17) (cutSt s89_0_17 (c89_0_17.enc v)) = B89_0_17 (K89_0 n) v := by kernel_rfl
set_option maxRecDepth 100000 in
theorem b89_0_24 (n : Nat) (v : Int × Int × Int × Int × Int × Int × Int × Int × Int) : evCut Tryz.prog E (oracle k89_0) false 89 Tryz.f89.ntmps (fun x => mem x [17, 24]) (L89_0 n) (finF Tryz.prog E Tryz.f89.results.toList [[]] w89_0.alts) 4000 (todoAt (Tryz.f89.body.getD .skip) 24) (cutSt s89_0_24 (c89_0_24.enc v)) = B89_0_24 (K89_0 n) v := by kernel_rfl
theorem ok89_0 : FnOk Tryz.prog E 89 v89_0.enc F89_0 w89_0.enc :=
  fn_known (fn := Tryz.f89) (c := (Tryz.f89.body.getD .skip)) Tryz.func89 (by kernel_rfl) rfl envOk (oracle_ok k89_0) mixed v89_0 F89_0 w89_0 [] [[]] (by kernel_rfl) [17, 24] 4000 L89_0 (by kernel_rfl)
    (List.forall_mem_cons.2 ⟨⟨_, [], s89_0_17, c89_0_17.dec, c89_0_17.enc, fun n => (K89_0 n).1, c89_0_17.ok, fun _ _ => rfl, fun _ => rfl, by kernel_rfl, fun n v _ h => (b89_0_17 n v).trans h⟩, List.forall_mem_cons.2 ⟨⟨_, [], s89_0_24, c89_0_24.dec, c89_0_24.enc, fun n => (K89_0 n).2, c89_0_24.ok, fun _ _ => rfl, fun _ => rfl, by kernel_rfl, fun n v _ h => (b89_0_24 n v).trans h⟩, fun _ h => (nomatch h)⟩⟩) (fun v _ h => ⟨fuel89_0 v, (e89_0 _ v).trans h⟩) (fun _ => by kernel_rfl) (fun _ => by kernel_rfl) (fun _ _ => by kernel_rfl)
/- chicane/wide.Div -/
abbrev A75_0 : Type := (Int × Int) × Int
abbrev R75_0 : Type := Int × Bool
def v75_0 : Pk G ((Int × Int) × Int) := (Pk.fst (pk (Sh.cons (Sh.agg (Sh.cons (Sh.int .i64) (Sh.fst (Sh.cons (Sh.int .u64) Sh.nil)))) (Sh.fst (Sh.cons (Sh.int .i64) Sh.nil))) Sh.hnil))
def w75_0 : Wk G (Int × Bool) := (Wk.one [.keep, .keep] (Pk.fst (pk (Sh.cons (Sh.int .i64) (Sh.fst (Sh.cons Sh.bool Sh.nil))) Sh.hnil)))
def F75_0 (v : (Int × Int) × Int) : Option (Int × Bool) :=
  (F88_0 v.1).bind fun r1315 =>
  let x1316 : Int := (IntKind.wrap .u64 v.2)
  bif (decide (v.2 < (0 : Int))) then
    let x1317 : Int := (IntKind.wrap .u64 (0 - x1316))
    bif (decide (r1315.1.1 ≥ x1317)) then
      some ((0 : Int), false)
    else
      (F89_0 (r1315.1.1, (r1315.1.2, x1317))).bind fun r1318 =>
      let x1319 : Int := (IntKind.wrap .u64 (x1317 - r1318.2))
      bif (decide (r1318.2 > x1319)) then
        bif (decide (r1318.2 > (0 : Int))) then
          let x1320 : Int := (IntKind.wrap .u64 (r1318.1 + (1 : Int)))
          bif (x1320 == (0 : Int)) then
            some ((0 : Int), false)
          else
            bif (!r1315.2) then
              bif (decide (x1320 ≤ (9223372036854775808 : Int))) then
                let x1321 : Int := (IntKind.wrap .u64 (0 - x1320))
                let x1322 : Int := (IntKind.wrap .i64 x1321)
                some (x1322, true)
              else
                bif (!(!r1315.2)) then
                  bif (decide (x1320 < (9223372036854775808 : Int))) then
                    let x1323 : Int := (IntKind.wrap .i64 x1320)
                    some (x1323, true)
                  else
                    some ((0 : Int), false)
                else
                  some ((0 : Int), false)
            else
              bif (!(!r1315.2)) then
                bif (decide (x1320 < (9223372036854775808 : Int))) then
                  let x1324 : Int := (IntKind.wrap .i64 x1320)
                  some (x1324, true)
                else
                  some ((0 : Int), false)
              else
                some ((0 : Int), false)
        else
          bif (!r1315.2) then
            bif (decide (r1318.1 ≤ (9223372036854775808 : Int))) then
              let x1325 : Int := (IntKind.wrap .u64 (0 - r1318.1))
              let x1326 : Int := (IntKind.wrap .i64 x1325)
              some (x1326, true)
            else
              bif (!(!r1315.2)) then
                bif (decide (r1318.1 < (9223372036854775808 : Int))) then
                  let x1327 : Int := (IntKind.wrap .i64 r1318.1)
                  some (x1327, true)
                else
                  some ((0 : Int), false)
              else
                some ((0 : Int), false)
          else
            bif (!(!r1315.2)) then
              bif (decide (r1318.1 < (9223372036854775808 : Int))) then
                let x1328 : Int := (IntKind.wrap .i64 r1318.1)
                some (x1328, true)
              else
                some ((0 : Int), false)
            else
              some ((0 : Int), false)
      else
        let x1329 : Int := (IntKind.wrap .u64 (x1317 - r1318.2))
        bif (r1318.2 == x1329) then
          let x1330 : Int := (Go.bits .and .u64 r1318.1 (1 : Int))
          bif (x1330 == (1 : Int)) then
            bif (decide (r1318.2 > (0 : Int))) then
              let x1331 : Int := (IntKind.wrap .u64 (r1318.1 + (1 : Int)))
              bif (x1331 == (0 : Int)) then
                some ((0 : Int), false)
              else
                bif (!r1315.2) then
                  bif (decide (x1331 ≤ (9223372036854775808 : Int))) then
                    let x1332 : Int := (IntKind.wrap .u64 (0 - x1331))
                    let x1333 : Int := (IntKind.wrap .i64 x1332)
                    some (x1333, true)
                  else
                    bif (!(!r1315.2)) then
                      bif (decide (x1331 < (9223372036854775808 : Int))) then
                        let x1334 : Int := (IntKind.wrap .i64 x1331)
                        some (x1334, true)
                      else
                        some ((0 : Int), false)
                    else
                      some ((0 : Int), false)
                else
                  bif (!(!r1315.2)) then
                    bif (decide (x1331 < (9223372036854775808 : Int))) then
                      let x1335 : Int := (IntKind.wrap .i64 x1331)
                      some (x1335, true)
                    else
                      some ((0 : Int), false)
                  else
                    some ((0 : Int), false)
            else
              bif (!r1315.2) then
                bif (decide (r1318.1 ≤ (9223372036854775808 : Int))) then
                  let x1336 : Int := (IntKind.wrap .u64 (0 - r1318.1))
                  let x1337 : Int := (IntKind.wrap .i64 x1336)
                  some (x1337, true)
                else
                  bif (!(!r1315.2)) then
                    bif (decide (r1318.1 < (9223372036854775808 : Int))) then
                      let x1338 : Int := (IntKind.wrap .i64 r1318.1)
                      some (x1338, true)
                    else
                      some ((0 : Int), false)
                  else
                    some ((0 : Int), false)
              else
                bif (!(!r1315.2)) then
                  bif (decide (r1318.1 < (9223372036854775808 : Int))) then
                    let x1339 : Int := (IntKind.wrap .i64 r1318.1)
                    some (x1339, true)
                  else
                    some ((0 : Int), false)
                else
                  some ((0 : Int), false)
          else
            bif (!r1315.2) then
              bif (decide (r1318.1 ≤ (9223372036854775808 : Int))) then
                let x1340 : Int := (IntKind.wrap .u64 (0 - r1318.1))
                let x1341 : Int := (IntKind.wrap .i64 x1340)
                some (x1341, true)
              else
                bif (!(!r1315.2)) then
                  bif (decide (r1318.1 < (9223372036854775808 : Int))) then
                    let x1342 : Int := (IntKind.wrap .i64 r1318.1)
                    some (x1342, true)
                  else
                    some ((0 : Int), false)
                else
                  some ((0 : Int), false)
            else
              bif (!(!r1315.2)) then
                bif (decide (r1318.1 < (9223372036854775808 : Int))) then
                  let x1343 : Int := (IntKind.wrap .i64 r1318.1)
                  some (x1343, true)
                else
                  some ((0 : Int), false)
              else
                some ((0 : Int), false)
        else
          bif (!r1315.2) then
            bif (decide (r1318.1 ≤ (9223372036854775808 : Int))) then
              let x1344 : Int := (IntKind.wrap .u64 (0 - r1318.1))
              let x1345 : Int := (IntKind.wrap .i64 x1344)
              some (x1345, true)
            else
              bif (!(!r1315.2)) then
                bif (decide (r1318.1 < (9223372036854775808 : Int))) then
                  let x1346 : Int := (IntKind.wrap .i64 r1318.1)
                  some (x1346, true)
                else
                  some ((0 : Int), false)
              else
                some ((0 : Int), false)
          else
            bif (!(!r1315.2)) then
              bif (decide (r1318.1 < (9223372036854775808 : Int))) then
                let x1347 : Int := (IntKind.wrap .i64 r1318.1)
                some (x1347, true)
              else
                some ((0 : Int), false)
            else
              some ((0 : Int), false)
  else
    bif (decide (r1315.1.1 ≥ x1316)) then
      some ((0 : Int), false)
    else
      (F89_0 (r1315.1.1, (r1315.1.2, x1316))).bind fun r1348 =>
      let x1349 : Int := (IntKind.wrap .u64 (x1316 - r1348.2))
      bif (decide (r1348.2 > x1349)) then
        bif (decide (r1348.2 > (0 : Int))) then
          let x1350 : Int := (IntKind.wrap .u64 (r1348.1 + (1 : Int)))
          bif (x1350 == (0 : Int)) then
            some ((0 : Int), false)
          else
            bif r1315.2 then
              bif (decide (x1350 ≤ (9223372036854775808 : Int))) then
                let x1351 : Int := (IntKind.wrap .u64 (0 - x1350))
                let x1352 : Int := (IntKind.wrap .i64 x1351)
                some (x1352, true)
              else
                bif (!r1315.2) then
                  bif (decide (x1350 < (9223372036854775808 : Int))) then
                    let x1353 : Int := (IntKind.wrap .i64 x1350)
                    some (x1353, true)
                  else
                    some ((0 : Int), false)
                else
                  some ((0 : Int), false)
            else
              bif (!r1315.2) then
                bif (decide (x1350 < (9223372036854775808 : Int))) then
                  let x1354 : Int := (IntKind.wrap .i64 x1350)
                  some (x1354, true)
                else
                  some ((0 : Int), false)
              else
                some ((0 : Int), false)
        else
          bif r1315.2 then
            bif (decide (r1348.1 ≤ (9223372036854775808 : Int))) then
              let x1355 : Int := (IntKind.wrap .u64 (0 - r1348.1))
              let x1356 : Int := (IntKind.wrap .i64 x1355)
              some (x1356, true)
            else
              bif (!r1315.2) then
                bif (decide (r1348.1 < (9223372036854775808 : Int))) then
                  let x1357 : Int := (IntKind.wrap .i64 r1348.1)
                  some (x1357, true)
                else
                  some ((0 : Int), false)
              else
                some ((0 : Int), false)
          else
            bif (!r1315.2) then
              bif (decide (r1348.1 < (9223372036854775808 : Int))) then
                let x1358 : Int := (IntKind.wrap .i64 r1348.1)
                some (x1358, true)
              else
                some ((0 : Int), false)
            else
              some ((0 : Int), false)
      else
        let x1359 : Int := (IntKind.wrap .u64 (x1316 - r1348.2))
        bif (r1348.2 == x1359) then
          let x1360 : Int := (Go.bits .and .u64 r1348.1 (1 : Int))
          bif (x1360 == (1 : Int)) then
            bif (decide (r1348.2 > (0 : Int))) then
              let x1361 : Int := (IntKind.wrap .u64 (r1348.1 + (1 : Int)))
              bif (x1361 == (0 : Int)) then
                some ((0 : Int), false)
              else
                bif r1315.2 then
                  bif (decide (x1361 ≤ (9223372036854775808 : Int))) then
                    let x1362 : Int := (IntKind.wrap .u64 (0 - x1361))
                    let x1363 : Int := (IntKind.wrap .i64 x1362)
                    some (x1363, true)
                  else
                    bif (!r1315.2) then
                      bif (decide (x1361 < (9223372036854775808 : Int))) then
                        let x1364 : Int := (IntKind.wrap .i64 x1361)
                        some (x1364, true)
                      else
                        some ((0 : Int), false)
                    else
                      some ((0 : Int), false)
                else
                  bif (!r1315.2) then
                    bif (decide (x1361 < (9223372036854775808 : Int))) then
                      let x1365 : Int := (IntKind.wrap .i64 x1361)
                      some (x1365, true)
                    else
                      some ((0 : Int), false)
                  else
                    some ((0 : Int), false)
            else
              bif r1315.2 then
                bif (decide (r1348.1 ≤ (9223372036854775808 : Int))) then
                  let x1366 : Int := (IntKind.wrap .u64 (0 - r1348.1))
                  let x1367 : Int := (IntKind.wrap .i64 x1366)
                  some (x1367, true)
                else
                  bif (!r1315.2) then
                    bif (decide (r1348.1 < (9223372036854775808 : Int))) then
                      let x1368 : Int := (IntKind.wrap .i64 r1348.1)
                      some (x1368, true)
                    else
                      some ((0 : Int), false)
                  else
                    some ((0 : Int), false)
              else
                bif (!r1315.2) then
                  bif (decide (r1348.1 < (9223372036854775808 : Int))) then
                    let x1369 : Int := (IntKind.wrap .i64 r1348.1)
                    some (x1369, true)
                  else
                    some ((0 : Int), false)
                else
                  some ((0 : Int), false)
          else
            bif r1315.2 then
              bif (decide (r1348.1 ≤ (9223372036854775808 : Int))) then
                let x1370 : Int := (IntKind.wrap .u64 (0 - r1348.1))
                let x1371 : Int := (IntKind.wrap .i64 x1370)
                some (x1371, true)
              else
                bif (!r1315.2) then
                  bif (decide (r1348.1 < (9223372036854775808 : Int))) then
                    let x1372 : Int := (IntKind.wrap .i64 r1348.1)
                    some (x1372, true)
                  else
                    some ((0 : Int), false)
                else
                  some ((0 : Int), false)
            else
              bif (!r1315.2) then
                bif (decide (r1348.1 < (9223372036854775808 : Int))) then
                  let x1373 : Int := (IntKind.wrap .i64 r1348.1)
                  some (x1373, true)
                else
                  some ((0 : Int), false)
              else
                some ((0 : Int), false)
        else
          bif r1315.2 then
            bif (decide (r1348.1 ≤ (9223372036854775808 : Int))) then
              let x1374 : Int := (IntKind.wrap .u64 (0 - r1348.1))
              let x1375 : Int := (IntKind.wrap .i64 x1374)
              some (x1375, true)
            else
              bif (!r1315.2) then
                bif (decide (r1348.1 < (9223372036854775808 : Int))) then
                  let x1376 : Int := (IntKind.wrap .i64 r1348.1)
                  some (x1376, true)
                else
                  some ((0 : Int), false)
              else
                some ((0 : Int), false)
          else
            bif (!r1315.2) then
              bif (decide (r1348.1 < (9223372036854775808 : Int))) then
                let x1377 : Int := (IntKind.wrap .i64 r1348.1)
                some (x1377, true)
              else
                some ((0 : Int), false)
            else
              some ((0 : Int), false)

noncomputable def k75_0 : List (Known Tryz.prog E) := [Known.of envOk [9] [(.agg [.keep, .keep])] v88_0 F88_0 w88_0 ok88_0, Known.of envOk [1, 1, 1] [.keep, .keep, .keep] v89_0 F89_0 w89_0 ok89_0]
noncomputable def L75_0 (n id : Nat) (st : St G) : Option (Int × Bool) := none
set_option maxRecDepth 100000 in
theorem e75_0 (n : Nat) (v : (Int × Int) × Int) : ev Tryz.prog E (oracle k75_0) Tryz.f75.ntmps (fun x => mem x []) (L75_0 n) (finF Tryz.prog E Tryz.f75.results.toList [[]] w75_0.alts) 4000 [.code (Tryz.f75.body.getD .skip)] (argSt (v75_0.enc v)) = F75_0 v := by kernel_rfl
theorem ok75_0 : FnOk Tryz.prog E 75 v75_0.enc F75_0 w75_0.enc :=
  fn_known (fn := Tryz.f75) (c := (Tryz.f75.body.getD .skip)) Tryz.func75 (by kernel_rfl) rfl envOk (oracle_ok k75_0) mixed v75_0 F75_0 w75_0 [] [[]] (by kernel_rfl) [] 4000 L75_0 (by kernel_rfl)
    (fun _ h => nomatch h) (fun v _ h => ⟨0, (e75_0 _ v).trans h⟩) (fun _ => by kernel_rfl) (fun _ => by kernel_rfl) (fun _ _ => by kernel_rfl)
/- (*chicane/fx.M).Div -/
abbrev A49_0 : Type := (Int × Int) × Bool
abbrev R49_0 : Type := Int × Bool
def v49_0 : Pk G ((Int × Int) × Bool) := (pk (Sh.snd (Sh.cons (Sh.ptr 0 0) (Sh.cons (Sh.int .i64) (Sh.fst (Sh.cons (Sh.int .i64) Sh.nil))))) (Sh.fst (Sh.hfix 0 47 (Sh.fst (Sh.cons Sh.bool Sh.nil)) Sh.hnil)))
def w49_0 : Wk G (Int × Bool) := (Wk.one [.keep] (pk (Sh.fst (Sh.cons (Sh.int .i64) Sh.nil)) (Sh.fst (Sh.hfix 0 47 (Sh.fst (Sh.cons Sh.bool Sh.nil)) Sh.hnil))))
def F49_0 (v : (Int × Int) × Bool) : Option (Int × Bool) :=
  bif (v.1.2 == (0 : Int)) then
    (F74_0 (v.1.1, v.2)).bind fun r1386 =>
    some (r1386)
  else
    let x1387 : Int := (Int.fdiv v.1.1 (2 ^ 32))
    let x1388 : Int := (IntKind.wrap .u64 v.1.1)
    let x1389 : Int := (IntKind.wrap .u64 (x1388 * 2 ^ 32))
    (F75_0 ((x1387, x1389), v.1.2)).bind fun r1390 =>
    bif (!r1390.2) then
      (F72_0 ((!((decide (v.1.1 < (0 : Int))) == (decide (v.1.2 < (0 : Int))))), v.2)).bind fun r1391 =>
      some (r1391)
    else
      some (r1390.1, v.2)

noncomputable def k49_0 : List (Known Tryz.prog E) := [Known.of envOk [5, 1] [(.ptr 0 0 47 [.keep]), .keep] v74_0 F74_0 w74_0 ok74_0, Known.of envOk [9, 1] [(.agg [.keep, .keep]), .keep] v75_0 F75_0 w75_0 ok75_0, Known.of envOk [5, 2] [(.ptr 0 0 47 [.keep]), .keep] v72_0 F72_0 w72_0 ok72_0]
noncomputable def L49_0 (n id : Nat) (st : St G) : Option (Int × Bool) := none
set_option maxRecDepth 100000 in
theorem e49_0 (n : Nat) (v : (Int × Int) × Bool) : ev Tryz.prog E (oracle k49_0) Tryz.f49.ntmps (fun x => mem x []) (L49_0 n) (finF Tryz.prog E Tryz.f49.results.toList [[(.ptr 0 0 47 [.keep])]] w49_0.alts) 4000 [.code (Tryz.f49.body.getD .skip)] (argSt (v49_0.enc v)) = F49_0 v := by kernel_rfl
theorem ok49_0 : FnOk Tryz.prog E 49 v49_0.enc F49_0 w49_0.enc :=
  fn_known (fn := Tryz.f49) (c := (Tryz.f49.body.getD .skip)) Tryz.func49 (by kernel_rfl) rfl envOk (oracle_ok k49_0) mixed v49_0 F49_0 w49_0 [(.ptr 0 0 47 [.keep])] [[(.ptr 0 0 47 [.keep])]] (by kernel_rfl) [] 4000 L49_0 (by kernel_rfl)
    (fun _ h => nomatch h) (fun v _ h => ⟨0, (e49_0 _ v).trans h⟩) (fun _ => by kernel_rfl) (fun _ => by kernel_rfl) (fun _ _ => by kernel_rfl)
/- (*chicane/field.Field).Slopes -/
abbrev A44_0 : Type := (Int × Int × Bool) × Bool × (Int × Int × Int × Int × Int) × List Int × List Int
abbrev R44_0 : Type := (Int × Int) × Bool × (Int × Int × Int × Int × Int) × List Int × List Int
def v44_0 : Pk G ((Int × Int × Bool) × Bool × (Int × Int × Int × Int × Int) × List Int × List Int) := (pk (Sh.snd (Sh.cons (Sh.ptr 0 0) (Sh.snd (Sh.cons (Sh.ptr 3 0) (Sh.cons (Sh.int .i64) (Sh.cons (Sh.int .i64) (Sh.fst (Sh.cons Sh.bool Sh.nil)))))))) (Sh.hfix 3 47 (Sh.fst (Sh.cons Sh.bool Sh.nil)) (Sh.hfix 0 61 (Sh.cons (Sh.int .i64) (Sh.cons (Sh.int .i64) (Sh.cons (Sh.int .i64) (Sh.cons (Sh.int .i64) (Sh.fst (Sh.cons (Sh.int .i64) (Sh.snd (Sh.cons (Sh.osl 1) (Sh.snd (Sh.cons (Sh.osl 2) Sh.nil)))))))))) (Sh.hrow 2 3 (Sh.fst (Sh.hrow 1 22 Sh.hnil))))))
def w44_0 : Wk G ((Int × Int) × Bool × (Int × Int × Int × Int × Int) × List Int × List Int) := (Wk.one [.keep, .keep] (pk (Sh.cons (Sh.int .i64) (Sh.fst (Sh.cons (Sh.int .i64) Sh.nil))) (Sh.hfix 3 47 (Sh.fst (Sh.cons Sh.bool Sh.nil)) (Sh.hfix 0 61 (Sh.cons (Sh.int .i64) (Sh.cons (Sh.int .i64) (Sh.cons (Sh.int .i64) (Sh.cons (Sh.int .i64) (Sh.fst (Sh.cons (Sh.int .i64) (Sh.snd (Sh.cons (Sh.osl 1) (Sh.snd (Sh.cons (Sh.osl 2) Sh.nil)))))))))) (Sh.hrow 1 22 (Sh.fst (Sh.hrow 2 3 Sh.hnil)))))))
def F44_0 (v : (Int × Int × Bool) × Bool × (Int × Int × Int × Int × Int) × List Int × List Int) : Option ((Int × Int) × Bool × (Int × Int × Int × Int × Int) × List Int × List Int) :=
  (F67_0 ((v.1.1, v.1.2.1), v.2.2)).bind fun r1443 =>
  bif (!r1443.1.2) then
    some (((0 : Int), (0 : Int)), (v.2.1, r1443.2))
  else
    let x1444 : Int := (IntKind.wrap .i64 (r1443.1.1 + (2 : Int)))
    (cutn r1443.1.1 x1444 ((r1443.2.2.1).length : Int)).bind fun (x1445 : Nat × Nat) =>
    let x1446 : Int := (IntKind.wrap .i64 (r1443.1.1 + r1443.2.1.2.1))
    let x1447 : Int := (IntKind.wrap .i64 (x1446 + (1 : Int)))
    let x1448 : Int := (IntKind.wrap .i64 (r1443.1.1 + r1443.2.1.2.1))
    let x1449 : Int := (IntKind.wrap .i64 (x1448 + (3 : Int)))
    (cutn x1447 x1449 ((r1443.2.2.1).length : Int)).bind fun (x1450 : Nat × Nat) =>
    bif v.1.2.2 then
      (idx (1 : Int) x1450.2).bind fun (x1451 : Nat) =>
      ((r1443.2.2.1)[(x1450.1 + x1451)]?).bind fun (x1452 : Int) =>
      (idx (0 : Int) x1450.2).bind fun (x1453 : Nat) =>
      ((r1443.2.2.1)[(x1450.1 + x1453)]?).bind fun (x1454 : Int) =>
      let x1455 : Int := (IntKind.wrap .i64 (x1452 - x1454))
      (F49_0 ((x1455, r1443.2.1.1), v.2.1)).bind fun r1456 =>
      (idx (0 : Int) x1450.2).bind fun (x1457 : Nat) =>
      ((r1443.2.2.1)[(x1450.1 + x1457)]?).bind fun (x1458 : Int) =>
      (idx (0 : Int) x1445.2).bind fun (x1459 : Nat) =>
      ((r1443.2.2.1)[(x1445.1 + x1459)]?).bind fun (x1460 : Int) =>
      let x1461 : Int := (IntKind.wrap .i64 (x1458 - x1460))
      (F49_0 ((x1461, r1443.2.1.1), r1456.2)).bind fun r1462 =>
      some ((r1456.1, r1462.1), (r1462.2, r1443.2))
    else
      (idx (1 : Int) x1445.2).bind fun (x1463 : Nat) =>
      ((r1443.2.2.1)[(x1445.1 + x1463)]?).bind fun (x1464 : Int) =>
      (idx (0 : Int) x1445.2).bind fun (x1465 : Nat) =>
      ((r1443.2.2.1)[(x1445.1 + x1465)]?).bind fun (x1466 : Int) =>
      let x1467 : Int := (IntKind.wrap .i64 (x1464 - x1466))
      (F49_0 ((x1467, r1443.2.1.1), v.2.1)).bind fun r1468 =>
      (idx (1 : Int) x1450.2).bind fun (x1469 : Nat) =>
      ((r1443.2.2.1)[(x1450.1 + x1469)]?).bind fun (x1470 : Int) =>
      (idx (1 : Int) x1445.2).bind fun (x1471 : Nat) =>
      ((r1443.2.2.1)[(x1445.1 + x1471)]?).bind fun (x1472 : Int) =>
      let x1473 : Int := (IntKind.wrap .i64 (x1470 - x1472))
      (F49_0 ((x1473, r1443.2.1.1), r1468.2)).bind fun r1474 =>
      some ((r1468.1, r1474.1), (r1474.2, r1443.2))

noncomputable def k44_0 : List (Known Tryz.prog E) := [Known.of envOk [5, 1, 1] [(.ptr 0 0 61 [.keep, .keep, .keep, .keep, .keep, (.own 1 22), (.own 2 3)]), .keep, .keep] v67_0 F67_0 w67_0 ok67_0, Known.of envOk [5, 1, 1] [(.ptr 0 0 47 [.keep]), .keep, .keep] v49_0 F49_0 w49_0 ok49_0]
noncomputable def L44_0 (n id : Nat) (st : St G) : Option ((Int × Int) × Bool × (Int × Int × Int × Int × Int) × List Int × List Int) := none
set_option maxRecDepth 100000 in
theorem e44_0 (n : Nat) (v : (Int × Int × Bool) × Bool × (Int × Int × Int × Int × Int) × List Int × List Int) : ev Tryz.prog E (oracle k44_0) Tryz.f44.ntmps (fun x => mem x []) (L44_0 n) (finF Tryz.prog E Tryz.f44.results.toList [[(.own 2 3), (.own 1 22), (.ptr 0 0 61 [.keep, .keep, .keep, .keep, .keep, (.own 1 22), (.own 2 3)]), (.ptr 3 0 47 [.keep])]] w44_0.alts) 4000 [.code (Tryz.f44.body.getD .skip)] (argSt (v44_0.enc v)) = F44_0 v := by kernel_rfl
theorem ok44_0 : FnOk Tryz.prog E 44 v44_0.enc F44_0 w44_0.enc :=
  fn_known (fn := Tryz.f44) (c := (Tryz.f44.body.getD .skip)) Tryz.func44 (by kernel_rfl) rfl envOk (oracle_ok k44_0) mixed v44_0 F44_0 w44_0 [(.own 2 3), (.own 1 22), (.ptr 0 0 61 [.keep, .keep, .keep, .keep, .keep, (.own 1 22), (.own 2 3)]), (.ptr 3 0 47 [.keep])] [[(.own 2 3), (.own 1 22), (.ptr 0 0 61 [.keep, .keep, .keep, .keep, .keep, (.own 1 22), (.own 2 3)]), (.ptr 3 0 47 [.keep])]] (by kernel_rfl) [] 4000 L44_0 (by kernel_rfl)
    (fun _ h => nomatch h) (fun v _ h => ⟨0, (e44_0 _ v).trans h⟩) (fun _ => by kernel_rfl) (fun _ => by kernel_rfl) (fun _ _ => by kernel_rfl)
/- chicane/wide.Neg -/
abbrev A68_0 : Type := Int × Int
abbrev R68_0 : Type := (Int × Int) × Bool
def v68_0 : Pk G (Int × Int) := (Pk.fst (pk (Sh.fst (Sh.cons (Sh.agg (Sh.cons (Sh.int .i64) (Sh.fst (Sh.cons (Sh.int .u64) Sh.nil)))) Sh.nil)) Sh.hnil))
def w68_0 : Wk G ((Int × Int) × Bool) := (Wk.one [(.agg [.keep, .keep]), .keep] (Pk.fst (pk (Sh.cons (Sh.agg (Sh.cons (Sh.int .i64) (Sh.fst (Sh.cons (Sh.int .u64) Sh.nil)))) (Sh.fst (Sh.cons Sh.bool Sh.nil))) Sh.hnil)))
def F68_0 (v : Int × Int) : Option ((Int × Int) × Bool) :=
  (F85_x ((0 : Int), (v.2, (0 : Int)))).bind fun r1490 =>
  let x1491 : Int := (IntKind.wrap .u64 v.1)
  (F85_x ((0 : Int), (x1491, r1490.2))).bind fun r1492 =>
  bif (decide (v.1 < (0 : Int))) then
    let x1493 : Int := (IntKind.wrap .i64 r1492.1)
    bif (decide (x1493 < (0 : Int))) then
      some (((0 : Int), (0 : Int)), false)
    else
      let x1494 : Int := (IntKind.wrap .i64 r1492.1)
      some ((x1494, r1490.1), true)
  else
    let x1495 : Int := (IntKind.wrap .i64 r1492.1)
    some ((x1495, r1490.1), true)

noncomputable def k68_0 : List (Known Tryz.prog E) := [Known.of envOk [1, 1, 1] [.keep, .keep, .keep] v85_x F85_x w85_x ok85_x]
noncomputable def L68_0 (n id : Nat) (st : St G) : Option ((Int × Int) × Bool) := none
set_option maxRecDepth 100000 in
theorem e68_0 (n : Nat) (v : Int × Int) : ev Tryz.prog E (oracle k68_0) Tryz.f68.ntmps (fun x => mem x []) (L68_0 n) (finF Tryz.prog E Tryz.f68.results.toList [[]] w68_0.alts) 4000 [.code (Tryz.f68.body.getD .skip)] (argSt (v68_0.enc v)) = F68_0 v := by kernel_rfl
theorem ok68_0 : FnOk Tryz.prog E 68 v68_0.enc F68_0 w68_0.enc :=
  fn_known (fn := Tryz.f68) (c := (Tryz.f68.body.getD .skip)) Tryz.func68 (by kernel_rfl) rfl envOk (oracle_ok k68_0) mixed v68_0 F68_0 w68_0 [] [[]] (by kernel_rfl) [] 4000 L68_0 (by kernel_rfl)
    (fun _ h => nomatch h) (fun v _ h => ⟨0, (e68_0 _ v).trans h⟩) (fun _ => by kernel_rfl) (fun _ => by kernel_rfl) (fun _ _ => by kernel_rfl)
/- (*chicane/fx.M).Sub -/
abbrev A45_0 : Type := (Int × Int) × Bool
abbrev R45_0 : Type := Int × Bool
def v45_0 : Pk G ((Int × Int) × Bool) := (pk (Sh.snd (Sh.cons (Sh.ptr 0 0) (Sh.cons (Sh.int .i64) (Sh.fst (Sh.cons (Sh.int .i64) Sh.nil))))) (Sh.fst (Sh.hfix 0 47 (Sh.fst (Sh.cons Sh.bool Sh.nil)) Sh.hnil)))
def w45_0 : Wk G (Int × Bool) := (Wk.one [.keep] (pk (Sh.fst (Sh.cons (Sh.int .i64) Sh.nil)) (Sh.fst (Sh.hfix 0 47 (Sh.fst (Sh.cons Sh.bool Sh.nil)) Sh.hnil))))
def F45_0 (v : (Int × Int) × Bool) : Option (Int × Bool) :=
  (F69_0 v.1.2).bind fun r1505 =>
  (F68_0 r1505).bind fun r1506 =>
  (F69_0 v.1.1).bind fun r1507 =>
  (F70_0 (r1507, r1506.1)).bind fun r1508 =>
  (F71_0 (r1508.1, v.2)).bind fun r1509 =>
  some (r1509)

noncomputable def k45_0 : List (Known Tryz.prog E) := [Known.of envOk [1] [.keep] v69_0 F69_0 w69_0 ok69_0, Known.of envOk [9] [(.agg [.keep, .keep])] v68_0 F68_0 w68_0 ok68_0, Known.of envOk [9, 9] [(.agg [.keep, .keep]), (.agg [.keep, .keep])] v70_0 F70_0 w70_0 ok70_0, Known.of envOk [9, 172] [(.agg [.keep, .keep]), (.fn (.func 72) [(.ptr 0 0 47 [.keep])] [])] v71_0 F71_0 w71_0 ok71_0]
noncomputable def L45_0 (n id : Nat) (st : St G) : Option (Int × Bool) := none
set_option maxRecDepth 100000 in
theorem e45_0 (n : Nat) (v : (Int × Int) × Bool) : ev Tryz.prog E (oracle k45_0) Tryz.f45.ntmps (fun x => mem x []) (L45_0 n) (finF Tryz.prog E Tryz.f45.results.toList [[(.ptr 0 0 47 [.keep])]] w45_0.alts) 4000 [.code (Tryz.f45.body.getD .skip)] (argSt (v45_0.enc v)) = F45_0 v := by kernel_rfl
theorem ok45_0 : FnOk Tryz.prog E 45 v45_0.enc F45_0 w45_0.enc :=
  fn_known (fn := Tryz.f45) (c := (Tryz.f45.body.getD .skip)) Tryz.func45 (by kernel_rfl) rfl envOk (oracle_ok k45_0) mixed v45_0 F45_0 w45_0 [(.ptr 0 0 47 [.keep])] [[(.ptr 0 0 47 [.keep])]] (by kernel_rfl) [] 4000 L45_0 (by kernel_rfl)
    (fun _ h => nomatch h) (fun v _ h => ⟨0, (e45_0 _ v).trans h⟩) (fun _ => by kernel_rfl) (fun _ => by kernel_rfl) (fun _ _ => by kernel_rfl)
/- (*chicane/field.Field).Base -/
abbrev A48_0 : Type := (Int × Int) × (Int × Int × Int × Int × Int) × List Int × List Int
abbrev R48_0 : Type := Int × (Int × Int × Int × Int × Int) × List Int × List Int
def v48_0 : Pk G ((Int × Int) × (Int × Int × Int × Int × Int) × List Int × List Int) := (pk (Sh.snd (Sh.cons (Sh.ptr 0 0) (Sh.cons (Sh.int .i64) (Sh.fst (Sh.cons (Sh.int .i64) Sh.nil))))) (Sh.hfix 0 61 (Sh.cons (Sh.int .i64) (Sh.cons (Sh.int .i64) (Sh.cons (Sh.int .i64) (Sh.cons (Sh.int .i64) (Sh.fst (Sh.cons (Sh.int .i64) (Sh.snd (Sh.cons (Sh.osl 1) (Sh.snd (Sh.cons (Sh.osl 2) Sh.nil)))))))))) (Sh.hrow 2 3 (Sh.fst (Sh.hrow 1 22 Sh.hnil)))))
def w48_0 : Wk G (Int × (Int × Int × Int × Int × Int) × List Int × List Int) := (Wk.one [.keep] (pk (Sh.fst (Sh.cons (Sh.int .i64) Sh.nil)) (Sh.hfix 0 61 (Sh.cons (Sh.int .i64) (Sh.cons (Sh.int .i64) (Sh.cons (Sh.int .i64) (Sh.cons (Sh.int .i64) (Sh.fst (Sh.cons (Sh.int .i64) (Sh.snd (Sh.cons (Sh.osl 1) (Sh.snd (Sh.cons (Sh.osl 2) Sh.nil)))))))))) (Sh.hrow 1 22 (Sh.fst (Sh.hrow 2 3 Sh.hnil))))))
def F48_0 (v : (Int × Int) × (Int × Int × Int × Int × Int) × List Int × List Int) : Option (Int × (Int × Int × Int × Int × Int) × List Int × List Int) :=
  (F67_0 v).bind fun r1524 =>
  bif r1524.1.2 then
    (idx r1524.1.1 (r1524.2.2.1).length).bind fun (x1525 : Nat) =>
    ((r1524.2.2.1)[x1525]?).bind fun (x1526 : Int) =>
    some (x1526, r1524.2)
  else
    some ((0 : Int), r1524.2)

noncomputable def k48_0 : List (Known Tryz.prog E) := [Known.of envOk [5, 1, 1] [(.ptr 0 0 61 [.keep, .keep, .keep, .keep, .keep, (.own 1 22), (.own 2 3)]), .keep, .keep] v67_0 F67_0 w67_0 ok67_0]
noncomputable def L48_0 (n id : Nat) (st : St G) : Option (Int × (Int × Int × Int × Int × Int) × List Int × List Int) := none
set_option maxRecDepth 100000 in
theorem e48_0 (n : Nat) (v : (Int × Int) × (Int × Int × Int × Int × Int) × List Int × List Int) : ev Tryz.prog E (oracle k48_0) Tryz.f48.ntmps (fun x => mem x []) (L48_0 n) (finF Tryz.prog E Tryz.f48.results.toList [[(.own 2 3), (.own 1 22), (.ptr 0 0 61 [.keep, .keep, .keep, .keep, .keep, (.own 1 22), (.own 2 3)])]] w48_0.alts) 4000 [.code (Tryz.f48.body.getD .skip)] (argSt (v48_0.enc v)) = F48_0 v := by kernel_rfl
theorem ok48_0 : FnOk Tryz.prog E 48 v48_0.enc F48_0 w48_0.enc :=
  fn_known (fn := Tryz.f48) (c := (Tryz.f48.body.getD .skip)) Tryz.func48 (by kernel_rfl) rfl envOk (oracle_ok k48_0) mixed v48_0 F48_0 w48_0 [(.own 2 3), (.own 1 22), (.ptr 0 0 61 [.keep, .keep, .keep, .keep, .keep, (.own 1 22), (.own 2 3)])] [[(.own 2 3), (.own 1 22), (.ptr 0 0 61 [.keep, .keep, .keep, .keep, .keep, (.own 1 22), (.own 2 3)])]] (by kernel_rfl) [] 4000 L48_0 (by kernel_rfl)
    (fun _ h => nomatch h) (fun v _ h => ⟨0, (e48_0 _ v).trans h⟩) (fun _ => by kernel_rfl) (fun _ => by kernel_rfl) (fun _ _ => by kernel_rfl)
/- (*chicane/fx.M).Neg -/
abbrev A50_0 : Type := Int × Bool
abbrev R50_0 : Type := Int × Bool
def v50_0 : Pk G (Int × Bool) := (pk (Sh.snd (Sh.cons (Sh.ptr 0 0) (Sh.fst (Sh.cons (Sh.int .i64) Sh.nil)))) (Sh.fst (Sh.hfix 0 47 (Sh.fst (Sh.cons Sh.bool Sh.nil)) Sh.hnil)))
def w50_0 : Wk G (Int × Bool) := (Wk.one [.keep] (pk (Sh.fst (Sh.cons (Sh.int .i64) Sh.nil)) (Sh.fst (Sh.hfix 0 47 (Sh.fst (Sh.cons Sh.bool Sh.nil)) Sh.hnil))))
def F50_0 (v : Int × Bool) : Option (Int × Bool) :=
  (F45_0 (((0 : Int), v.1), v.2)).bind fun r1535 =>
  some (r1535)

noncomputable def k50_0 : List (Known Tryz.prog E) := [Known.of envOk [5, 1, 1] [(.ptr 0 0 47 [.keep]), .keep, .keep] v45_0 F45_0 w45_0 ok45_0]
noncomputable def L50_0 (n id : Nat) (st : St G) : Option (Int × Bool) := none
set_option maxRecDepth 100000 in
theorem e50_0 (n : Nat) (v : Int × Bool) : ev Tryz.prog E (oracle k50_0) Tryz.f50.ntmps (fun x => mem x []) (L50_0 n) (finF Tryz.prog E Tryz.f50.results.toList [[(.ptr 0 0 47 [.keep])]] w50_0.alts) 4000 [.code (Tryz.f50.body.getD .skip)] (argSt (v50_0.enc v)) = F50_0 v := by kernel_rfl
theorem ok50_0 : FnOk Tryz.prog E 50 v50_0.enc F50_0 w50_0.enc :=
  fn_known (fn := Tryz.f50) (c := (Tryz.f50.body.getD .skip)) Tryz.func50 (by kernel_rfl) rfl envOk (oracle_ok k50_0) mixed v50_0 F50_0 w50_0 [(.ptr 0 0 47 [.keep])] [[(.ptr 0 0 47 [.keep])]] (by kernel_rfl) [] 4000 L50_0 (by kernel_rfl)
    (fun _ h => nomatch h) (fun v _ h => ⟨0, (e50_0 _ v).trans h⟩) (fun _ => by kernel_rfl) (fun _ => by kernel_rfl) (fun _ _ => by kernel_rfl)
/- (chicane/wide.size).below -/
abbrev A101_0 : Type := (Int × Int) × Int × Int
abbrev R101_0 : Type := Bool
def v101_0 : Pk G ((Int × Int) × Int × Int) := (Pk.fst (pk (Sh.cons (Sh.agg (Sh.cons (Sh.int .u64) (Sh.fst (Sh.cons (Sh.int .u64) Sh.nil)))) (Sh.fst (Sh.cons (Sh.agg (Sh.cons (Sh.int .u64) (Sh.fst (Sh.cons (Sh.int .u64) Sh.nil)))) Sh.nil))) Sh.hnil))
def w101_0 : Wk G Bool := (Wk.one [.keep] (Pk.fst (pk (Sh.fst (Sh.cons Sh.bool Sh.nil)) Sh.hnil)))
def F101_0 (v : (Int × Int) × Int × Int) : Option Bool :=
  bif (decide (v.1.1 < v.2.1)) then
    some (true)
  else
    bif (v.1.1 == v.2.1) then
      some (decide (v.1.2 < v.2.2))
    else
      some (false)

noncomputable def k101_0 : List (Known Tryz.prog E) := []
noncomputable def L101_0 (n id : Nat) (st : St G) : Option Bool := none
set_option maxRecDepth 100000 in
theorem e101_0 (n : Nat) (v : (Int × Int) × Int × Int) : ev Tryz.prog E (oracle k101_0) Tryz.f101.ntmps (fun x => mem x []) (L101_0 n) (finF Tryz.prog E Tryz.f101.results.toList [[]] w101_0.alts) 4000 [.code (Tryz.f101.body.getD .skip)] (argSt (v101_0.enc v)) = F101_0 v := by kernel_rfl
theorem ok101_0 : FnOk Tryz.prog E 101 v101_0.enc F101_0 w101_0.enc :=
  fn_known (fn := Tryz.f101) (c := (Tryz.f101.body.getD .skip)) Tryz.func101 (by kernel_rfl) rfl envOk (oracle_ok k101_0) mixed v101_0 F101_0 w101_0 [] [[]] (by kernel_rfl) [] 4000 L101_0 (by kernel_rfl)
    (fun _ h => nomatch h) (fun v _ h => ⟨0, (e101_0 _ v).trans h⟩) (fun _ => by kernel_rfl) (fun _ => by kernel_rfl) (fun _ _ => by kernel_rfl)
/- chicane/wide.Root -/
abbrev A97_0 : Type := Int × Int
abbrev R97_0 : Type := Int
def v97_0 : Pk G (Int × Int) := (Pk.fst (pk (Sh.fst (Sh.cons (Sh.agg (Sh.cons (Sh.int .i64) (Sh.fst (Sh.cons (Sh.int .u64) Sh.nil)))) Sh.nil)) Sh.hnil))
def w97_0 : Wk G Int := (Wk.one [.keep] (Pk.fst (pk (Sh.fst (Sh.cons (Sh.int .u64) Sh.nil)) Sh.hnil)))
def c97_0_5 : Pk G ((Int × Int) × Int × Int) := (pk (Sh.snd (Sh.cons (Sh.ptr 0 0) (Sh.cons (Sh.int .u64) (Sh.fst (Sh.cons (Sh.int .u64) Sh.nil))))) (Sh.fst (Sh.hfix 0 142 (Sh.cons (Sh.int .u64) (Sh.fst (Sh.cons (Sh.int .u64) Sh.nil))) Sh.hnil)))
def B97_0_5 (K : (((Int × Int) × Int × Int) → Option Int)) (v : (Int × Int) × Int × Int) : Option Int :=
  bif (decide (v.1.1 < v.1.2)) then
    let x1568 : Int := (IntKind.wrap .u64 (v.1.2 - v.1.1))
    let x1569 : Int := (IntKind.wrap .u64 (x1568 + (1 : Int)))
    let x1570 : Int := (IntKind.wrap .u64 (Int.tdiv x1569 (2 : Int)))
    let x1571 : Int := (IntKind.wrap .u64 (v.1.1 + x1570))
    (F87_0 (x1571, x1571)).bind fun r1572 =>
    (F101_0 (v.2, r1572)).bind fun r1573 =>
    bif r1573 then
      let x1574 : Int := (IntKind.wrap .u64 (x1571 - (1 : Int)))
      K ((v.1.1, x1574), v.2)
    else
      K ((x1571, v.1.2), v.2)
  else
    some (v.1.1)

def E97_0 (K : (((Int × Int) × Int × Int) → Option Int)) (v : Int × Int) : Option Int :=
  bif (decide (v.1 < (0 : Int))) then
    some (0 : Int)
  else
    let x1566 : Bool := ((v.1 == (0 : Int)) && ((v.2 == (0 : Int)) && true))
    bif x1566 then
      some (0 : Int)
    else
      let x1567 : Int := (IntKind.wrap .u64 v.1)
      K (((1 : Int), (13835058055282163712 : Int)), (x1567, v.2))

def K97_0 : Nat → (((Int × Int) × Int × Int) → Option Int)
  | 0 => (fun _ => none)
  | n + 1 => (B97_0_5 (K97_0 n))
def fuel97_0 (v : Int × Int) : Nat := 1000
def F97_0 (v : Int × Int) : Option Int := E97_0 (K97_0 (fuel97_0 v)) v
noncomputable def k97_0 : List (Known Tryz.prog E) := [Known.of envOk [1, 1] [.keep, .keep] v87_0 F87_0 w87_0 ok87_0, Known.of envOk [9, 9] [(.agg [.keep, .keep]), (.agg [.keep, .keep])] v101_0 F101_0 w101_0 ok101_0]
def s97_0_5 : List (Nat × Pat) := [(3, (.ptr 0 0 142 [.keep, .keep])), (4, .keep), (5, .keep)]
noncomputable def L97_0 (n id : Nat) (st : St G) : Option Int := match Nat.beq id 5 with | true => cutK Tryz.prog s97_0_5 [] c97_0_5.dec (K97_0 n) st | false => none
set_option maxRecDepth 100000 in
theorem e97_0 (n : Nat) (v : Int × Int) : ev Tryz.prog E (oracle k97_0) Tryz.f97.ntmps (fun x => mem x [5]) (L97_0 n) (finF Tryz.prog E Tryz.f97.results.toList [[]] w97_0.alts) 4000 [.code (Tryz.f97.body.getD .skip)] (argSt (v97_0.enc v)) = E97_0 (K97_0 n) v := by kernel_rfl
set_option maxRecDepth 100000 in
theorem b97_0_5 (n : Nat) (v : (Int × Int) × Int × Int) : evCut Tryz.prog E (oracle k97_0) false 97 Tryz.f97.ntmps (fun x => mem x [5]) (L97_0 n) (finF Tryz.prog E Tryz.f97.results.toList [[]] w97_0.alts) 4000 (todoAt (Tryz.f97.body.getD .skip) 5) (cutSt s97_0_5 (c97_0_5.enc v)) = B97_0_5 (K97_0 n) v := by kernel_rfl
theorem ok97_0 : FnOk Tryz.prog E 97 v97_0.enc F97_0 w97_0.enc :=
  fn_known (fn := Tryz.f97) (c := (Tryz.f97.body.getD .skip)) Tryz.func97 (by kernel_rfl) rfl envOk (oracle_ok k97_0) mixed v97_0 F97_0 w97_0 [] [[]] (by kernel_rfl) [5] 4000 L97_0 (by kernel_rfl)
    (List.forall_mem_cons.2 ⟨⟨_, [], s97_0_5, c97_0_5.dec, c97_0_5.enc, fun n => (K97_0 n), c97_0_5.ok, fun _ _ => rfl, fun _ => rfl, by kernel_rfl, fun n v _ h => (b97_0_5 n v).trans h⟩, fun _ h => (nomatch h)⟩) (fun v _ h => ⟨fuel97_0 v, (e97_0 _ v).trans h⟩) (fun _ => by kernel_rfl) (fun _ => by kernel_rfl) (fun _ _ => by kernel_rfl)
/- chicane/root.length -/
abbrev A94_0 : Type := List Int × Bool
abbrev R94_0 : Type := Int × Bool
def v94_0 : Pk G (List Int × Bool) := (pk (Sh.snd (Sh.cons (Sh.ptr 0 0) (Sh.fst (Sh.cons (Sh.ros 22) Sh.nil)))) (Sh.fst (Sh.hfix 0 47 (Sh.fst (Sh.cons Sh.bool Sh.nil)) Sh.hnil)))
def w94_0 : Wk G (Int × Bool) := (Wk.one [.keep] (pk (Sh.fst (Sh.cons (Sh.int .i64) Sh.nil)) (Sh.fst (Sh.hfix 0 47 (Sh.fst (Sh.cons Sh.bool Sh.nil)) Sh.hnil))))
def c94_0_4 : Pk G ((Bool × List Int × Int × Int) × (Int × Int) × Bool) := (pk (Sh.snd (Sh.cons (Sh.ptr 0 0) (Sh.snd (Sh.cons (Sh.ptr 1 0) (Sh.cons Sh.bool (Sh.cons (Sh.ros 22) (Sh.cons (Sh.int .i64) (Sh.fst (Sh.cons (Sh.int .i64) Sh.nil))))))))) (Sh.hfix 1 116 (Sh.cons (Sh.int .i64) (Sh.fst (Sh.cons (Sh.int .u64) Sh.nil))) (Sh.fst (Sh.hfix 0 47 (Sh.fst (Sh.cons Sh.bool Sh.nil)) Sh.hnil))))
def B94_0_4 (K : (((Bool × List Int × Int × Int) × (Int × Int) × Bool) → Option (Int × Bool))) (v : (Bool × List Int × Int × Int) × (Int × Int) × Bool) : Option (Int × Bool) :=
  bif (decide (v.1.2.2.2 < v.1.2.2.1)) then
    (rdx v.1.2.1 v.1.2.2.2).bind fun (x1589 : Int) =>
    (F73_0 (x1589, x1589)).bind fun r1590 =>
    (F70_0 (v.2.1, r1590)).bind fun r1591 =>
    bif (!r1591.2) then
      (F97_0 r1591.1).bind fun r1592 =>
      bif (!r1591.2) then
        some ((9223372036854775807 : Int), true)
      else
        bif (decide (r1592 > (9223372036854775807 : Int))) then
          some ((9223372036854775807 : Int), true)
        else
          let x1593 : Int := (IntKind.wrap .i64 r1592)
          some (x1593, v.2.2)
    else
      let x1594 : Int := (IntKind.wrap .i64 (v.1.2.2.2 + (1 : Int)))
      K ((r1591.2, (v.1.2.1, (v.1.2.2.1, x1594))), (r1591.1, v.2.2))
  else
    (F97_0 v.2.1).bind fun r1595 =>
    bif (!v.1.1) then
      some ((9223372036854775807 : Int), true)
    else
      bif (decide (r1595 > (9223372036854775807 : Int))) then
        some ((9223372036854775807 : Int), true)
      else
        let x1596 : Int := (IntKind.wrap .i64 r1595)
        some (x1596, v.2.2)

def E94_0 (K : (((Bool × List Int × Int × Int) × (Int × Int) × Bool) → Option (Int × Bool))) (v : List Int × Bool) : Option (Int × Bool) :=
  K ((true, (v.1, (((v.1).length : Int), (0 : Int)))), (((0 : Int), (0 : Int)), v.2))

def K94_0 : Nat → (((Bool × List Int × Int × Int) × (Int × Int) × Bool) → Option (Int × Bool))
  | 0 => (fun _ => none)
  | n + 1 => (B94_0_4 (K94_0 n))
def fuel94_0 (v : List Int × Bool) : Nat := 1000
def F94_0 (v : List Int × Bool) : Option (Int × Bool) := E94_0 (K94_0 (fuel94_0 v)) v
noncomputable def k94_0 : List (Known Tryz.prog E) := [Known.of envOk [1, 1] [.keep, .keep] v73_0 F73_0 w73_0 ok73_0, Known.of envOk [9, 9] [(.agg [.keep, .keep]), (.agg [.keep, .keep])] v70_0 F70_0 w70_0 ok70_0, Known.of envOk [9] [(.agg [.keep, .keep])] v97_0 F97_0 w97_0 ok97_0]
def s94_0_4 : List (Nat × Pat) := [(0, (.ptr 0 0 47 [])), (5, (.ptr 1 0 116 [.keep, .keep])), (6, .keep), (10, (.ros 22)), (11, .keep), (12, .keep)]
noncomputable def L94_0 (n id : Nat) (st : St G) : Option (Int × Bool) := match Nat.beq id 4 with | true => cutK Tryz.prog s94_0_4 [(.ptr 0 0 47 [.keep])] c94_0_4.dec (K94_0 n) st | false => none
set_option maxRecDepth 100000 in
theorem e94_0 (n : Nat) (v : List Int × Bool) : ev Tryz.prog E (oracle k94_0) Tryz.f94.ntmps (fun x => mem x [4]) (L94_0 n) (finF Tryz.prog E Tryz.f94.results.toList [[(.ptr 0 0 47 [.keep])]] w94_0.alts) 4000 [.code (Tryz.f94.body.getD .skip)] (argSt (v94_0.enc v)) = E94_0 (K94_0 n) v := by kernel_rfl
set_option maxRecDepth 100000 in
theorem b94_0_4 (n : Nat) (v : (Bool × List Int × Int × Int) × (Int × Int) × Bool) : evCut Tryz.prog E (oracle k94_0) false 94 Tryz.f94.ntmps (fun x => mem x [4]) (L94_0 n) (finF Tryz.prog E Tryz.f94.results.toList [[(.ptr 0 0 47 [.keep])]] w94_0.alts) 4000 (todoAt (Tryz.f94.body.getD .skip) 4) (cutSt s94_0_4 (c94_0_4.enc v)) = B94_0_4 (K94_0 n) v := by kernel_rfl
theorem ok94_0 : FnOk Tryz.prog E 94 v94_0.enc F94_0 w94_0.enc :=
  fn_known (fn := Tryz.f94) (c := (Tryz.f94.body.getD .skip)) Tryz.func94 (by kernel_rfl) rfl envOk (oracle_ok k94_0) mixed v94_0 F94_0 w94_0 [(.ptr 0 0 47 [.keep])] [[(.ptr 0 0 47 [.keep])]] (by kernel_rfl) [4] 4000 L94_0 (by kernel_rfl)
    (List.forall_mem_cons.2 ⟨⟨_, [(.ptr 0 0 47 [.keep])], s94_0_4, c94_0_4.dec, c94_0_4.enc, fun n => (K94_0 n), c94_0_4.ok, fun _ _ => rfl, fun _ => rfl, by kernel_rfl, fun n v _ h => (b94_0_4 n v).trans h⟩, fun _ h => (nomatch h)⟩) (fun v _ h => ⟨fuel94_0 v, (e94_0 _ v).trans h⟩) (fun _ => by kernel_rfl) (fun _ => by kernel_rfl) (fun _ _ => by kernel_rfl)
/- chicane/root.Len3 -/
abbrev A90_0 : Type := (Int × Int × Int) × Bool
abbrev R90_0 : Type := Int × Bool
def v90_0 : Pk G ((Int × Int × Int) × Bool) := (pk (Sh.snd (Sh.cons (Sh.ptr 0 0) (Sh.cons (Sh.int .i64) (Sh.cons (Sh.int .i64) (Sh.fst (Sh.cons (Sh.int .i64) Sh.nil)))))) (Sh.fst (Sh.hfix 0 47 (Sh.fst (Sh.cons Sh.bool Sh.nil)) Sh.hnil)))
def w90_0 : Wk G (Int × Bool) := (Wk.one [.keep] (pk (Sh.fst (Sh.cons (Sh.int .i64) Sh.nil)) (Sh.fst (Sh.hfix 0 47 (Sh.fst (Sh.cons Sh.bool Sh.nil)) Sh.hnil))))
def F90_0 (v : (Int × Int × Int) × Bool) : Option (Int × Bool) :=
  (F94_0 (([v.1.1, v.1.2.1, v.1.2.2] : List Int), v.2)).bind fun r1599 =>
  some (r1599)

noncomputable def k90_0 : List (Known Tryz.prog E) := [Known.of envOk [5, 7] [(.ptr 0 0 47 [.keep]), (.ros 22)] v94_0 F94_0 w94_0 ok94_0]
noncomputable def L90_0 (n id : Nat) (st : St G) : Option (Int × Bool) := none
set_option maxRecDepth 100000 in
theorem e90_0 (n : Nat) (v : (Int × Int × Int) × Bool) : ev Tryz.prog E (oracle k90_0) Tryz.f90.ntmps (fun x => mem x []) (L90_0 n) (finF Tryz.prog E Tryz.f90.results.toList [[(.ptr 0 0 47 [.keep])]] w90_0.alts) 4000 [.code (Tryz.f90.body.getD .skip)] (argSt (v90_0.enc v)) = F90_0 v := by kernel_rfl
theorem ok90_0 : FnOk Tryz.prog E 90 v90_0.enc F90_0 w90_0.enc :=
  fn_known (fn := Tryz.f90) (c := (Tryz.f90.body.getD .skip)) Tryz.func90 (by kernel_rfl) rfl envOk (oracle_ok k90_0) mixed v90_0 F90_0 w90_0 [(.ptr 0 0 47 [.keep])] [[(.ptr 0 0 47 [.keep])]] (by kernel_rfl) [] 4000 L90_0 (by kernel_rfl)
    (fun _ h => nomatch h) (fun v _ h => ⟨0, (e90_0 _ v).trans h⟩) (fun _ => by kernel_rfl) (fun _ => by kernel_rfl) (fun _ _ => by kernel_rfl)
/- chicane/root.Unit3 -/
abbrev A76_0 : Type := (Int × Int × Int) × Bool
abbrev R76_0 : Type := (Int × Int × Int × Bool) × Bool
def v76_0 : Pk G ((Int × Int × Int) × Bool) := (pk (Sh.snd (Sh.cons (Sh.ptr 0 0) (Sh.cons (Sh.int .i64) (Sh.cons (Sh.int .i64) (Sh.fst (Sh.cons (Sh.int .i64) Sh.nil)))))) (Sh.fst (Sh.hfix 0 47 (Sh.fst (Sh.cons Sh.bool Sh.nil)) Sh.hnil)))
def w76_0 : Wk G ((Int × Int × Int × Bool) × Bool) := (Wk.one [.keep, .keep, .keep, .keep] (pk (Sh.cons (Sh.int .i64) (Sh.cons (Sh.int .i64) (Sh.cons (Sh.int .i64) (Sh.fst (Sh.cons Sh.bool Sh.nil))))) (Sh.fst (Sh.hfix 0 47 (Sh.fst (Sh.cons Sh.bool Sh.nil)) Sh.hnil))))
def F76_0 (v : (Int × Int × Int) × Bool) : Option ((Int × Int × Int × Bool) × Bool) :=
  (F90_0 v).bind fun r1608 =>
  bif (r1608.1 == (0 : Int)) then
    some (((0 : Int), ((0 : Int), ((0 : Int), false))), r1608.2)
  else
    (F49_0 ((v.1.1, r1608.1), r1608.2)).bind fun r1609 =>
    (F49_0 ((v.1.2.1, r1608.1), r1609.2)).bind fun r1610 =>
    (F49_0 ((v.1.2.2, r1608.1), r1610.2)).bind fun r1611 =>
    some ((r1609.1, (r1610.1, (r1611.1, true))), r1611.2)

noncomputable def k76_0 : List (Known Tryz.prog E) := [Known.of envOk [5, 1, 1, 1] [(.ptr 0 0 47 [.keep]), .keep, .keep, .keep] v90_0 F90_0 w90_0 ok90_0, Known.of envOk [5, 1, 1] [(.ptr 0 0 47 [.keep]), .keep, .keep] v49_0 F49_0 w49_0 ok49_0]
noncomputable def L76_0 (n id : Nat) (st : St G) : Option ((Int × Int × Int × Bool) × Bool) := none
set_option maxRecDepth 100000 in
theorem e76_0 (n : Nat) (v : (Int × Int × Int) × Bool) : ev Tryz.prog E (oracle k76_0) Tryz.f76.ntmps (fun x => mem x []) (L76_0 n) (finF Tryz.prog E Tryz.f76.results.toList [[(.ptr 0 0 47 [.keep])]] w76_0.alts) 4000 [.code (Tryz.f76.body.getD .skip)] (argSt (v76_0.enc v)) = F76_0 v := by kernel_rfl
theorem ok76_0 : FnOk Tryz.prog E 76 v76_0.enc F76_0 w76_0.enc :=
  fn_known (fn := Tryz.f76) (c := (Tryz.f76.body.getD .skip)) Tryz.func76 (by kernel_rfl) rfl envOk (oracle_ok k76_0) mixed v76_0 F76_0 w76_0 [(.ptr 0 0 47 [.keep])] [[(.ptr 0 0 47 [.keep])]] (by kernel_rfl) [] 4000 L76_0 (by kernel_rfl)
    (fun _ h => nomatch h) (fun v _ h => ⟨0, (e76_0 _ v).trans h⟩) (fun _ => by kernel_rfl) (fun _ => by kernel_rfl) (fun _ _ => by kernel_rfl)
end Go.Proofs.YtneiaaalbpjgiaaGreat.Ev
