import Derived.Test.YtneiaaalbpjgiaaGreatXFnsA
set_option linter.unusedVariables false
namespace Go.Proofs.YtneiaaalbpjgiaaGreat.Ev
open Go Go.RowKit
/- chicane/vec.Unit -/
abbrev A51_0 : Type := (Int × Int × Int) × Bool
abbrev R51_0 : Type := ((Int × Int × Int) × Bool) × Bool
def v51_0 : Pk G ((Int × Int × Int) × Bool) := (pk (Sh.snd (Sh.cons (Sh.ptr 0 0) (Sh.fst (Sh.cons (Sh.agg (Sh.cons (Sh.int .i64) (Sh.cons (Sh.int .i64) (Sh.fst (Sh.cons (Sh.int .i64) Sh.nil))))) Sh.nil)))) (Sh.fst (Sh.hfix 0 47 (Sh.fst (Sh.cons Sh.bool Sh.nil)) Sh.hnil)))
def w51_0 : Wk G (((Int × Int × Int) × Bool) × Bool) := (Wk.one [(.agg [.keep, .keep, .keep]), .keep] (pk (Sh.cons (Sh.agg (Sh.cons (Sh.int .i64) (Sh.cons (Sh.int .i64) (Sh.fst (Sh.cons (Sh.int .i64) Sh.nil))))) (Sh.fst (Sh.cons Sh.bool Sh.nil))) (Sh.fst (Sh.hfix 0 47 (Sh.fst (Sh.cons Sh.bool Sh.nil)) Sh.hnil))))
def F51_0 (v : (Int × Int × Int) × Bool) : Option (((Int × Int × Int) × Bool) × Bool) :=
  (F76_0 v).bind fun r1614 =>
  some (((r1614.1.1, (r1614.1.2.1, r1614.1.2.2.1)), r1614.1.2.2.2), r1614.2)

noncomputable def k51_0 : List (Known Tryz.prog E) := [Known.of envOk [5, 1, 1, 1] [(.ptr 0 0 47 [.keep]), .keep, .keep, .keep] v76_0 F76_0 w76_0 ok76_0]
noncomputable def L51_0 (n id : Nat) (st : St G) : Option (((Int × Int × Int) × Bool) × Bool) := none
set_option maxRecDepth 100000 in
theorem e51_0 (n : Nat) (v : (Int × Int × Int) × Bool) : ev Tryz.prog E (oracle k51_0) Tryz.f51.ntmps (fun x => mem x []) (L51_0 n) (finF Tryz.prog E Tryz.f51.results.toList [[(.ptr 0 0 47 [.keep])]] w51_0.alts) 4000 [.code (Tryz.f51.body.getD .skip)] (argSt (v51_0.enc v)) = F51_0 v := by kernel_rfl
theorem ok51_0 : FnOk Tryz.prog E 51 v51_0.enc F51_0 w51_0.enc :=
  fn_known (fn := Tryz.f51) (c := (Tryz.f51.body.getD .skip)) Tryz.func51 (by kernel_rfl) rfl envOk (oracle_ok k51_0) mixed v51_0 F51_0 w51_0 [(.ptr 0 0 47 [.keep])] [[(.ptr 0 0 47 [.keep])]] (by kernel_rfl) [] 4000 L51_0 (by kernel_rfl)
    (fun _ h => nomatch h) (fun v _ h => ⟨0, (e51_0 _ v).trans h⟩) (fun _ => by kernel_rfl) (fun _ => by kernel_rfl) (fun _ _ => by kernel_rfl)
/- (*chicane/field.Field).Kind -/
abbrev A52_0 : Type := (Int × Int) × (Int × Int × Int × Int × Int) × List Int × List Int
abbrev R52_0 : Type := Int × (Int × Int × Int × Int × Int) × List Int × List Int
def v52_0 : Pk G ((Int × Int) × (Int × Int × Int × Int × Int) × List Int × List Int) := (pk (Sh.snd (Sh.cons (Sh.ptr 0 0) (Sh.cons (Sh.int .i64) (Sh.fst (Sh.cons (Sh.int .i64) Sh.nil))))) (Sh.hfix 0 61 (Sh.cons (Sh.int .i64) (Sh.cons (Sh.int .i64) (Sh.cons (Sh.int .i64) (Sh.cons (Sh.int .i64) (Sh.fst (Sh.cons (Sh.int .i64) (Sh.snd (Sh.cons (Sh.osl 1) (Sh.snd (Sh.cons (Sh.osl 2) Sh.nil)))))))))) (Sh.hrow 2 3 (Sh.fst (Sh.hrow 1 22 Sh.hnil)))))
def w52_0 : Wk G (Int × (Int × Int × Int × Int × Int) × List Int × List Int) := (Wk.one [.keep] (pk (Sh.fst (Sh.cons (Sh.int .i64) Sh.nil)) (Sh.hfix 0 61 (Sh.cons (Sh.int .i64) (Sh.cons (Sh.int .i64) (Sh.cons (Sh.int .i64) (Sh.cons (Sh.int .i64) (Sh.fst (Sh.cons (Sh.int .i64) (Sh.snd (Sh.cons (Sh.osl 1) (Sh.snd (Sh.cons (Sh.osl 2) Sh.nil)))))))))) (Sh.hrow 1 22 (Sh.fst (Sh.hrow 2 3 Sh.hnil))))))
def F52_0 (v : (Int × Int) × (Int × Int × Int × Int × Int) × List Int × List Int) : Option (Int × (Int × Int × Int × Int × Int) × List Int × List Int) :=
  (F22_0 v).bind fun r1626 =>
  let x1627 : Int := (IntKind.wrap .i64 (r1626.1.2.1 * r1626.2.1.2.1))
  let x1628 : Int := (IntKind.wrap .i64 (x1627 + r1626.1.1))
  (idx x1628 (r1626.2.2.2).length).bind fun (x1629 : Nat) =>
  ((r1626.2.2.2)[x1629]?).bind fun (x1630 : Int) =>
  some (x1630, r1626.2)

noncomputable def k52_0 : List (Known Tryz.prog E) := [Known.of envOk [5, 1, 1] [(.ptr 0 0 61 [.keep, .keep, .keep, .keep, .keep, (.own 1 22), (.own 2 3)]), .keep, .keep] v22_0 F22_0 w22_0 ok22_0]
noncomputable def L52_0 (n id : Nat) (st : St G) : Option (Int × (Int × Int × Int × Int × Int) × List Int × List Int) := none
set_option maxRecDepth 100000 in
theorem e52_0 (n : Nat) (v : (Int × Int) × (Int × Int × Int × Int × Int) × List Int × List Int) : ev Tryz.prog E (oracle k52_0) Tryz.f52.ntmps (fun x => mem x []) (L52_0 n) (finF Tryz.prog E Tryz.f52.results.toList [[(.own 2 3), (.own 1 22), (.ptr 0 0 61 [.keep, .keep, .keep, .keep, .keep, (.own 1 22), (.own 2 3)])]] w52_0.alts) 4000 [.code (Tryz.f52.body.getD .skip)] (argSt (v52_0.enc v)) = F52_0 v := by kernel_rfl
theorem ok52_0 : FnOk Tryz.prog E 52 v52_0.enc F52_0 w52_0.enc :=
  fn_known (fn := Tryz.f52) (c := (Tryz.f52.body.getD .skip)) Tryz.func52 (by kernel_rfl) rfl envOk (oracle_ok k52_0) mixed v52_0 F52_0 w52_0 [(.own 2 3), (.own 1 22), (.ptr 0 0 61 [.keep, .keep, .keep, .keep, .keep, (.own 1 22), (.own 2 3)])] [[(.own 2 3), (.own 1 22), (.ptr 0 0 61 [.keep, .keep, .keep, .keep, .keep, (.own 1 22), (.own 2 3)])]] (by kernel_rfl) [] 4000 L52_0 (by kernel_rfl)
    (fun _ h => nomatch h) (fun v _ h => ⟨0, (e52_0 _ v).trans h⟩) (fun _ => by kernel_rfl) (fun _ => by kernel_rfl) (fun _ _ => by kernel_rfl)
/- (*chicane/ray.caster).meet -/
abbrev A25_0 : Type := (((Int × Int)) × Bool) × (Int × Int × Int × Int × Int × Int × Int × Int × Int × Int × Int × ((Int × Int)) × Int × Int × Int × Bool) × (Int × Int × Int × Int × Int) × List Int × List Int × Bool
abbrev R25_0 : Type := (Int × Int × Int × Int × Int × Int × Int × Int × Int × Int × Int × ((Int × Int)) × Int × Int × Int × Bool) × (Int × Int × Int × Int × Int) × Bool × List Int × List Int
def v25_0 : Pk G ((((Int × Int)) × Bool) × (Int × Int × Int × Int × Int × Int × Int × Int × Int × Int × Int × ((Int × Int)) × Int × Int × Int × Bool) × (Int × Int × Int × Int × Int) × List Int × List Int × Bool) := (pk (Sh.snd (Sh.cons (Sh.ptr 0 0) (Sh.cons Sh.cpx (Sh.fst (Sh.cons Sh.bool Sh.nil))))) (Sh.hfix 0 78 (Sh.snd (Sh.cons (Sh.ptr 1 0) (Sh.snd (Sh.cons (Sh.ptr 2 0) (Sh.cons (Sh.int .i64) (Sh.cons (Sh.int .i64) (Sh.cons (Sh.int .i64) (Sh.cons (Sh.int .i64) (Sh.cons (Sh.int .i64) (Sh.cons (Sh.int .i64) (Sh.cons (Sh.int .i64) (Sh.cons (Sh.int .i64) (Sh.cons (Sh.int .i64) (Sh.cons (Sh.int .i64) (Sh.cons (Sh.int .i64) (Sh.cons Sh.cpx (Sh.cons (Sh.int .i64) (Sh.cons (Sh.int .i64) (Sh.cons (Sh.int .i64) (Sh.fst (Sh.cons Sh.bool Sh.nil))))))))))))))))))))) (Sh.hfix 2 61 (Sh.cons (Sh.int .i64) (Sh.cons (Sh.int .i64) (Sh.cons (Sh.int .i64) (Sh.cons (Sh.int .i64) (Sh.fst (Sh.cons (Sh.int .i64) (Sh.snd (Sh.cons (Sh.osl 3) (Sh.snd (Sh.cons (Sh.osl 4) Sh.nil)))))))))) (Sh.hrow 4 3 (Sh.hrow 3 22 (Sh.fst (Sh.hfix 1 47 (Sh.fst (Sh.cons Sh.bool Sh.nil)) Sh.hnil)))))))
def w25_0 : Wk G ((Int × Int × Int × Int × Int × Int × Int × Int × Int × Int × Int × ((Int × Int)) × Int × Int × Int × Bool) × (Int × Int × Int × Int × Int) × Bool × List Int × List Int) := (Wk.one [] (Pk.snd (pk Sh.nil (Sh.hfix 0 78 (Sh.snd (Sh.cons (Sh.ptr 1 0) (Sh.snd (Sh.cons (Sh.ptr 2 0) (Sh.cons (Sh.int .i64) (Sh.cons (Sh.int .i64) (Sh.cons (Sh.int .i64) (Sh.cons (Sh.int .i64) (Sh.cons (Sh.int .i64) (Sh.cons (Sh.int .i64) (Sh.cons (Sh.int .i64) (Sh.cons (Sh.int .i64) (Sh.cons (Sh.int .i64) (Sh.cons (Sh.int .i64) (Sh.cons (Sh.int .i64) (Sh.cons Sh.cpx (Sh.cons (Sh.int .i64) (Sh.cons (Sh.int .i64) (Sh.cons (Sh.int .i64) (Sh.fst (Sh.cons Sh.bool Sh.nil))))))))))))))))))))) (Sh.hfix 2 61 (Sh.cons (Sh.int .i64) (Sh.cons (Sh.int .i64) (Sh.cons (Sh.int .i64) (Sh.cons (Sh.int .i64) (Sh.fst (Sh.cons (Sh.int .i64) (Sh.snd (Sh.cons (Sh.osl 3) (Sh.snd (Sh.cons (Sh.osl 4) Sh.nil)))))))))) (Sh.hfix 1 47 (Sh.fst (Sh.cons Sh.bool Sh.nil)) (Sh.hrow 3 22 (Sh.fst (Sh.hrow 4 3 Sh.hnil)))))))))
def F25_0 (v : (((Int × Int)) × Bool) × (Int × Int × Int × Int × Int × Int × Int × Int × Int × Int × Int × ((Int × Int)) × Int × Int × Int × Bool) × (Int × Int × Int × Int × Int) × List Int × List Int × Bool) : Option ((Int × Int × Int × Int × Int × Int × Int × Int × Int × Int × Int × ((Int × Int)) × Int × Int × Int × Bool) × (Int × Int × Int × Int × Int) × Bool × List Int × List Int) :=
  (F43_0 v.1.1).bind fun r1669 =>
  (F44_0 ((r1669.1, (r1669.2, v.1.2)), (v.2.2.2.2.2, (v.2.2.1, (v.2.2.2.1, v.2.2.2.2.1))))).bind fun r1670 =>
  (F46_0 ((r1670.1.1, v.2.1.2.2.2.1), r1670.2.1)).bind fun r1671 =>
  (F45_0 ((v.2.1.2.2.2.2.2.1, r1671.1), r1671.2)).bind fun r1672 =>
  (F46_0 ((r1670.1.2, v.2.1.2.2.2.2.1), r1672.2)).bind fun r1673 =>
  (F45_0 ((r1672.1, r1673.1), r1673.2)).bind fun r1674 =>
  bif (decide (r1674.1 ≥ (0 : Int))) then
    some (v.2.1, (r1670.2.2.1, (r1674.2, r1670.2.2.2)))
  else
    (chk (flOk (v.2.1.2.2.2.2.2.2.2.2.2.2.2.1.1 - v.1.1.1) && flOk (v.2.1.2.2.2.2.2.2.2.2.2.2.2.1.2 - v.1.1.2))).bind fun _ =>
    (F43_0 ((v.2.1.2.2.2.2.2.2.2.2.2.2.2.1.1 - v.1.1.1), (v.2.1.2.2.2.2.2.2.2.2.2.2.2.1.2 - v.1.1.2))).bind fun r1675 =>
    let x1676 : Int := (IntKind.wrap .i64 (r1675.1 * v.2.1.2.2.2.2.2.2.2.2.2.2.2.2.2.2.1))
    let x1677 : Int := (IntKind.wrap .i64 (v.2.1.2.2.2.2.2.2.2.2.2.2.2.2.1 + x1676))
    let x1678 : Int := (IntKind.wrap .i64 (r1675.2 * v.2.1.2.2.2.2.2.2.2.2.2.2.2.2.2.2.1))
    let x1679 : Int := (IntKind.wrap .i64 (v.2.1.2.2.2.2.2.2.2.2.2.2.2.2.2.1 + x1678))
    (F48_0 (r1669, (r1670.2.2.1, (r1670.2.2.2.2, r1670.2.2.2.1)))).bind fun r1680 =>
    (F46_0 ((r1670.1.1, x1677), r1674.2)).bind fun r1681 =>
    (F47_0 ((r1680.1, r1681.1), r1681.2)).bind fun r1682 =>
    (F46_0 ((r1670.1.2, x1679), r1682.2)).bind fun r1683 =>
    (F47_0 ((r1682.1, r1683.1), r1683.2)).bind fun r1684 =>
    (F45_0 ((v.2.1.2.2.1, r1684.1), r1684.2)).bind fun r1685 =>
    bif (decide (r1685.1 > (0 : Int))) then
      (F50_0 (r1674.1, r1685.2)).bind fun r1686 =>
      (F49_0 ((r1685.1, r1686.1), r1686.2)).bind fun r1687 =>
      bif (decide (r1687.1 ≥ v.2.1.2.2.2.2.2.2.1)) then
        some (v.2.1, (r1680.2.1, (r1687.2, r1680.2.2)))
      else
        (F23_0 (((v.2.1.1, (v.2.1.2.1, v.2.1.2.2.1)), ((v.2.1.2.2.2.1, (v.2.1.2.2.2.2.1, v.2.1.2.2.2.2.2.1)), r1687.1)), r1687.2)).bind fun r1688 =>
        (F22_0 ((r1688.1.1, r1688.1.2.1), (r1680.2.1, (r1680.2.2.2, r1680.2.2.1)))).bind fun r1689 =>
        bif (r1689.1.1 != r1669.1) then
          some (v.2.1, (r1689.2.1, (r1688.2, r1689.2.2)))
        else
          bif (r1689.1.2.1 != r1669.2) then
            some (v.2.1, (r1689.2.1, (r1688.2, r1689.2.2)))
          else
            bif (!((decide (r1689.1.2.2.1 < r1689.1.2.2.2)) == v.1.2)) then
              some (v.2.1, (r1689.2.1, (r1688.2, r1689.2.2)))
            else
              let x1690 : Int := (IntKind.wrap .i64 (0 - r1670.1.1))
              let x1691 : Int := (IntKind.wrap .i64 (0 - r1670.1.2))
              (F51_0 ((x1690, (x1691, (4294967296 : Int))), r1688.2)).bind fun r1692 =>
              (F52_0 ((r1688.1.1, r1688.1.2.1), (r1689.2.1, (r1689.2.2.2, r1689.2.2.1)))).bind fun r1693 =>
              some ((v.2.1.1, (v.2.1.2.1, (v.2.1.2.2.1, (v.2.1.2.2.2.1, (v.2.1.2.2.2.2.1, (v.2.1.2.2.2.2.2.1, (r1687.1, (r1692.1.1.1, (r1692.1.1.2.1, (r1692.1.1.2.2, (r1693.1, (v.2.1.2.2.2.2.2.2.2.2.2.2.2.1, (v.2.1.2.2.2.2.2.2.2.2.2.2.2.2.1, (v.2.1.2.2.2.2.2.2.2.2.2.2.2.2.2.1, (v.2.1.2.2.2.2.2.2.2.2.2.2.2.2.2.2.1, true))))))))))))))), (r1693.2.1, (r1692.2, r1693.2.2)))
    else
      bif (decide ((0 : Int) ≥ v.2.1.2.2.2.2.2.2.1)) then
        some (v.2.1, (r1680.2.1, (r1685.2, r1680.2.2)))
      else
        (F23_0 (((v.2.1.1, (v.2.1.2.1, v.2.1.2.2.1)), ((v.2.1.2.2.2.1, (v.2.1.2.2.2.2.1, v.2.1.2.2.2.2.2.1)), (0 : Int))), r1685.2)).bind fun r1694 =>
        (F22_0 ((r1694.1.1, r1694.1.2.1), (r1680.2.1, (r1680.2.2.2, r1680.2.2.1)))).bind fun r1695 =>
        bif (r1695.1.1 != r1669.1) then
          some (v.2.1, (r1695.2.1, (r1694.2, r1695.2.2)))
        else
          bif (r1695.1.2.1 != r1669.2) then
            some (v.2.1, (r1695.2.1, (r1694.2, r1695.2.2)))
          else
            bif (!((decide (r1695.1.2.2.1 < r1695.1.2.2.2)) == v.1.2)) then
              some (v.2.1, (r1695.2.1, (r1694.2, r1695.2.2)))
            else
              let x1696 : Int := (IntKind.wrap .i64 (0 - r1670.1.1))
              let x1697 : Int := (IntKind.wrap .i64 (0 - r1670.1.2))
              (F51_0 ((x1696, (x1697, (4294967296 : Int))), r1694.2)).bind fun r1698 =>
              (F52_0 ((r1694.1.1, r1694.1.2.1), (r1695.2.1, (r1695.2.2.2, r1695.2.2.1)))).bind fun r1699 =>
              some ((v.2.1.1, (v.2.1.2.1, (v.2.1.2.2.1, (v.2.1.2.2.2.1, (v.2.1.2.2.2.2.1, (v.2.1.2.2.2.2.2.1, ((0 : Int), (r1698.1.1.1, (r1698.1.1.2.1, (r1698.1.1.2.2, (r1699.1, (v.2.1.2.2.2.2.2.2.2.2.2.2.2.1, (v.2.1.2.2.2.2.2.2.2.2.2.2.2.2.1, (v.2.1.2.2.2.2.2.2.2.2.2.2.2.2.2.1, (v.2.1.2.2.2.2.2.2.2.2.2.2.2.2.2.2.1, true))))))))))))))), (r1699.2.1, (r1698.2, r1699.2.2)))

noncomputable def k25_0 : List (Known Tryz.prog E) := [Known.of envOk [15] [.keep] v43_0 F43_0 w43_0 ok43_0, Known.of envOk [5, 5, 1, 1, 2] [(.ptr 0 0 61 [.keep, .keep, .keep, .keep, .keep, (.own 1 22), (.own 2 3)]), (.ptr 3 0 47 [.keep]), .keep, .keep, .keep] v44_0 F44_0 w44_0 ok44_0, Known.of envOk [5, 1, 1] [(.ptr 0 0 47 [.keep]), .keep, .keep] v46_0 F46_0 w46_0 ok46_0, Known.of envOk [5, 1, 1] [(.ptr 0 0 47 [.keep]), .keep, .keep] v45_0 F45_0 w45_0 ok45_0, Known.of envOk [5, 1, 1] [(.ptr 0 0 61 [.keep, .keep, .keep, .keep, .keep, (.own 1 22), (.own 2 3)]), .keep, .keep] v48_0 F48_0 w48_0 ok48_0, Known.of envOk [5, 1, 1] [(.ptr 0 0 47 [.keep]), .keep, .keep] v47_0 F47_0 w47_0 ok47_0, Known.of envOk [5, 1] [(.ptr 0 0 47 [.keep]), .keep] v50_0 F50_0 w50_0 ok50_0, Known.of envOk [5, 1, 1] [(.ptr 0 0 47 [.keep]), .keep, .keep] v49_0 F49_0 w49_0 ok49_0, Known.of envOk [5, 9, 9, 1] [(.ptr 0 0 47 [.keep]), (.agg [.keep, .keep, .keep]), (.agg [.keep, .keep, .keep]), .keep] v23_0 F23_0 w23_0 ok23_0, Known.of envOk [5, 1, 1] [(.ptr 0 0 61 [.keep, .keep, .keep, .keep, .keep, (.own 1 22), (.own 2 3)]), .keep, .keep] v22_0 F22_0 w22_0 ok22_0, Known.of envOk [5, 9] [(.ptr 0 0 47 [.keep]), (.agg [.keep, .keep, .keep])] v51_0 F51_0 w51_0 ok51_0, Known.of envOk [5, 1, 1] [(.ptr 0 0 61 [.keep, .keep, .keep, .keep, .keep, (.own 1 22), (.own 2 3)]), .keep, .keep] v52_0 F52_0 w52_0 ok52_0]
noncomputable def L25_0 (n id : Nat) (st : St G) : Option ((Int × Int × Int × Int × Int × Int × Int × Int × Int × Int × Int × ((Int × Int)) × Int × Int × Int × Bool) × (Int × Int × Int × Int × Int) × Bool × List Int × List Int) := none
set_option maxRecDepth 100000 in
theorem e25_0 (n : Nat) (v : (((Int × Int)) × Bool) × (Int × Int × Int × Int × Int × Int × Int × Int × Int × Int × Int × ((Int × Int)) × Int × Int × Int × Bool) × (Int × Int × Int × Int × Int) × List Int × List Int × Bool) : ev Tryz.prog E (oracle k25_0) Tryz.f25.ntmps (fun x => mem x []) (L25_0 n) (finF Tryz.prog E Tryz.f25.results.toList [[(.own 4 3), (.own 3 22), (.ptr 1 0 47 [.keep]), (.ptr 2 0 61 [.keep, .keep, .keep, .keep, .keep, (.own 3 22), (.own 4 3)]), (.ptr 0 0 78 [(.ptr 1 0 47 []), (.ptr 2 0 61 []), .keep, .keep, .keep, .keep, .keep, .keep, .keep, .keep, .keep, .keep, .keep, .keep, .keep, .keep, .keep, .keep])]] w25_0.alts) 4000 [.code (Tryz.f25.body.getD .skip)] (argSt (v25_0.enc v)) = F25_0 v := by kernel_rfl
theorem ok25_0 : FnOk Tryz.prog E 25 v25_0.enc F25_0 w25_0.enc :=
  fn_known (fn := Tryz.f25) (c := (Tryz.f25.body.getD .skip)) Tryz.func25 (by kernel_rfl) rfl envOk (oracle_ok k25_0) mixed v25_0 F25_0 w25_0 [(.own 4 3), (.own 3 22), (.ptr 1 0 47 [.keep]), (.ptr 2 0 61 [.keep, .keep, .keep, .keep, .keep, (.own 3 22), (.own 4 3)]), (.ptr 0 0 78 [(.ptr 1 0 47 []), (.ptr 2 0 61 []), .keep, .keep, .keep, .keep, .keep, .keep, .keep, .keep, .keep, .keep, .keep, .keep, .keep, .keep, .keep, .keep])] [[(.own 4 3), (.own 3 22), (.ptr 1 0 47 [.keep]), (.ptr 2 0 61 [.keep, .keep, .keep, .keep, .keep, (.own 3 22), (.own 4 3)]), (.ptr 0 0 78 [(.ptr 1 0 47 []), (.ptr 2 0 61 []), .keep, .keep, .keep, .keep, .keep, .keep, .keep, .keep, .keep, .keep, .keep, .keep, .keep, .keep, .keep, .keep])]] (by kernel_rfl) [] 4000 L25_0 (by kernel_rfl)
    (fun _ h => nomatch h) (fun v _ h => ⟨0, (e25_0 _ v).trans h⟩) (fun _ => by kernel_rfl) (fun _ => by kernel_rfl) (fun _ _ => by kernel_rfl)
/- chicane/ray.Cast -/
abbrev A7_0 : Type := ((Int × Int × Int) × (Int × Int × Int) × Int) × (Int × Int × Int × Int × Int) × List Int × List Int × Bool
abbrev R7_0 : Type := ((Int × Int × Int × Int × Int) × Bool) × (Int × Int × Int × Int × Int) × Bool × List Int × List Int
def v7_0 : Pk G (((Int × Int × Int) × (Int × Int × Int) × Int) × (Int × Int × Int × Int × Int) × List Int × List Int × Bool) := (pk (Sh.snd (Sh.cons (Sh.ptr 0 0) (Sh.snd (Sh.cons (Sh.ptr 1 0) (Sh.cons (Sh.agg (Sh.cons (Sh.int .i64) (Sh.cons (Sh.int .i64) (Sh.fst (Sh.cons (Sh.int .i64) Sh.nil))))) (Sh.cons (Sh.agg (Sh.cons (Sh.int .i64) (Sh.cons (Sh.int .i64) (Sh.fst (Sh.cons (Sh.int .i64) Sh.nil))))) (Sh.fst (Sh.cons (Sh.int .i64) Sh.nil)))))))) (Sh.hfix 1 61 (Sh.cons (Sh.int .i64) (Sh.cons (Sh.int .i64) (Sh.cons (Sh.int .i64) (Sh.cons (Sh.int .i64) (Sh.fst (Sh.cons (Sh.int .i64) (Sh.snd (Sh.cons (Sh.osl 2) (Sh.snd (Sh.cons (Sh.osl 3) Sh.nil)))))))))) (Sh.hrow 3 3 (Sh.hrow 2 22 (Sh.fst (Sh.hfix 0 47 (Sh.fst (Sh.cons Sh.bool Sh.nil)) Sh.hnil))))))
def w7_0 : Wk G (((Int × Int × Int × Int × Int) × Bool) × (Int × Int × Int × Int × Int) × Bool × List Int × List Int) := (Wk.one [(.agg [.keep, .keep, .keep, .keep, .keep]), .keep] (pk (Sh.cons (Sh.agg (Sh.cons (Sh.int .i64) (Sh.cons (Sh.int .i64) (Sh.cons (Sh.int .i64) (Sh.cons (Sh.int .i64) (Sh.fst (Sh.cons (Sh.int .i64) Sh.nil))))))) (Sh.fst (Sh.cons Sh.bool Sh.nil))) (Sh.hfix 1 61 (Sh.cons (Sh.int .i64) (Sh.cons (Sh.int .i64) (Sh.cons (Sh.int .i64) (Sh.cons (Sh.int .i64) (Sh.fst (Sh.cons (Sh.int .i64) (Sh.snd (Sh.cons (Sh.osl 2) (Sh.snd (Sh.cons (Sh.osl 3) Sh.nil)))))))))) (Sh.hfix 0 47 (Sh.fst (Sh.cons Sh.bool Sh.nil)) (Sh.hrow 2 22 (Sh.fst (Sh.hrow 3 3 Sh.hnil)))))))
def c7_0_11 : Pk G ((Int × Int × (Int × Int)) × (Int × Int × Int × Int × Int × Int × Int × Int × Int × Int × Int × ((Int × Int)) × Int × Int × Int × Bool) × Bool × (Int × Int × Int × Int × Int) × (Int × Int × Int × Int × Int) × Bool × List Int × List Int) := (pk (Sh.snd (Sh.cons (Sh.ptr 4 0) (Sh.snd (Sh.cons (Sh.ptr 5 0) (Sh.cons (Sh.int .i64) (Sh.cons (Sh.int .i64) (Sh.fst (Sh.cons Sh.cpx Sh.nil)))))))) (Sh.hfix 5 78 (Sh.snd (Sh.cons (Sh.ptr 6 0) (Sh.snd (Sh.cons (Sh.ptr 1 0) (Sh.cons (Sh.int .i64) (Sh.cons (Sh.int .i64) (Sh.cons (Sh.int .i64) (Sh.cons (Sh.int .i64) (Sh.cons (Sh.int .i64) (Sh.cons (Sh.int .i64) (Sh.cons (Sh.int .i64) (Sh.cons (Sh.int .i64) (Sh.cons (Sh.int .i64) (Sh.cons (Sh.int .i64) (Sh.cons (Sh.int .i64) (Sh.cons Sh.cpx (Sh.cons (Sh.int .i64) (Sh.cons (Sh.int .i64) (Sh.cons (Sh.int .i64) (Sh.fst (Sh.cons Sh.bool Sh.nil))))))))))))))))))))) (Sh.hfix 6 47 (Sh.fst (Sh.cons Sh.bool Sh.nil)) (Sh.hfix 4 51 (Sh.cons (Sh.int .i64) (Sh.cons (Sh.int .i64) (Sh.cons (Sh.int .i64) (Sh.cons (Sh.int .i64) (Sh.fst (Sh.cons (Sh.int .i64) Sh.nil)))))) (Sh.hfix 1 61 (Sh.cons (Sh.int .i64) (Sh.cons (Sh.int .i64) (Sh.cons (Sh.int .i64) (Sh.cons (Sh.int .i64) (Sh.fst (Sh.cons (Sh.int .i64) (Sh.snd (Sh.cons (Sh.osl 2) (Sh.snd (Sh.cons (Sh.osl 3) Sh.nil)))))))))) (Sh.hfix 0 47 (Sh.fst (Sh.cons Sh.bool Sh.nil)) (Sh.hrow 2 22 (Sh.fst (Sh.hrow 3 3 Sh.hnil)))))))))
def c7_0_15 : Pk G ((Int × Int × ((Int × Int)) × ((Int × Int)) × Int × Int) × (Int × Int × Int × Int × Int × Int × Int × Int × Int × Int × Int × ((Int × Int)) × Int × Int × Int × Bool) × Bool × (Int × Int × Int × Int × Int) × (Int × Int × Int × Int × Int) × Bool × List Int × List Int) := (pk (Sh.snd (Sh.cons (Sh.ptr 4 0) (Sh.snd (Sh.cons (Sh.ptr 5 0) (Sh.cons (Sh.int .i64) (Sh.cons (Sh.int .i64) (Sh.cons Sh.cpx (Sh.cons Sh.cpx (Sh.cons (Sh.int .i64) (Sh.fst (Sh.cons (Sh.int .i64) Sh.nil))))))))))) (Sh.hfix 5 78 (Sh.snd (Sh.cons (Sh.ptr 6 0) (Sh.snd (Sh.cons (Sh.ptr 1 0) (Sh.cons (Sh.int .i64) (Sh.cons (Sh.int .i64) (Sh.cons (Sh.int .i64) (Sh.cons (Sh.int .i64) (Sh.cons (Sh.int .i64) (Sh.cons (Sh.int .i64) (Sh.cons (Sh.int .i64) (Sh.cons (Sh.int .i64) (Sh.cons (Sh.int .i64) (Sh.cons (Sh.int .i64) (Sh.cons (Sh.int .i64) (Sh.cons Sh.cpx (Sh.cons (Sh.int .i64) (Sh.cons (Sh.int .i64) (Sh.cons (Sh.int .i64) (Sh.fst (Sh.cons Sh.bool Sh.nil))))))))))))))))))))) (Sh.hfix 6 47 (Sh.fst (Sh.cons Sh.bool Sh.nil)) (Sh.hfix 4 51 (Sh.cons (Sh.int .i64) (Sh.cons (Sh.int .i64) (Sh.cons (Sh.int .i64) (Sh.cons (Sh.int .i64) (Sh.fst (Sh.cons (Sh.int .i64) Sh.nil)))))) (Sh.hfix 1 61 (Sh.cons (Sh.int .i64) (Sh.cons (Sh.int .i64) (Sh.cons (Sh.int .i64) (Sh.cons (Sh.int .i64) (Sh.fst (Sh.cons (Sh.int .i64) (Sh.snd (Sh.cons (Sh.osl 2) (Sh.snd (Sh.cons (Sh.osl 3) Sh.nil)))))))))) (Sh.hfix 0 47 (Sh.fst (Sh.cons Sh.bool Sh.nil)) (Sh.hrow 2 22 (Sh.fst (Sh.hrow 3 3 Sh.hnil)))))))))
def B7_0_11 (K : (((Int × Int × (Int × Int)) × (Int × Int × Int × Int × Int × Int × Int × Int × Int × Int × Int × ((Int × Int)) × Int × Int × Int × Bool) × Bool × (Int × Int × Int × Int × Int) × (Int × Int × Int × Int × Int) × Bool × List Int × List Int) → Option (((Int × Int × Int × Int × Int) × Bool) × (Int × Int × Int × Int × Int) × Bool × List Int × List Int)) × (((Int × Int × ((Int × Int)) × ((Int × Int)) × Int × Int) × (Int × Int × Int × Int × Int × Int × Int × Int × Int × Int × Int × ((Int × Int)) × Int × Int × Int × Bool) × Bool × (Int × Int × Int × Int × Int) × (Int × Int × Int × Int × Int) × Bool × List Int × List Int) → Option (((Int × Int × Int × Int × Int) × Bool) × (Int × Int × Int × Int × Int) × Bool × List Int × List Int))) (v : (Int × Int × (Int × Int)) × (Int × Int × Int × Int × Int × Int × Int × Int × Int × Int × Int × ((Int × Int)) × Int × Int × Int × Bool) × Bool × (Int × Int × Int × Int × Int) × (Int × Int × Int × Int × Int) × Bool × List Int × List Int) : Option (((Int × Int × Int × Int × Int) × Bool) × (Int × Int × Int × Int × Int) × Bool × List Int × List Int) :=
  bif (decide (v.1.2.1 > (0 : Int))) then
    K.2 ((v.1.1, (v.1.2.1, (v.1.2.2, (v.1.2.2, (v.1.1, (0 : Int)))))), v.2)
  else
    bif (!v.2.1.2.2.2.2.2.2.2.2.2.2.2.2.2.2.2) then
      some ((((0 : Int), ((0 : Int), ((0 : Int), ((0 : Int), (0 : Int))))), false), v.2.2.2.2)
    else
      some (((v.2.1.2.2.2.2.2.2.1, (v.2.1.2.2.2.2.2.2.2.1, (v.2.1.2.2.2.2.2.2.2.2.1, (v.2.1.2.2.2.2.2.2.2.2.2.1, v.2.1.2.2.2.2.2.2.2.2.2.2.1)))), true), v.2.2.2.2)

def B7_0_15 (K : (((Int × Int × (Int × Int)) × (Int × Int × Int × Int × Int × Int × Int × Int × Int × Int × Int × ((Int × Int)) × Int × Int × Int × Bool) × Bool × (Int × Int × Int × Int × Int) × (Int × Int × Int × Int × Int) × Bool × List Int × List Int) → Option (((Int × Int × Int × Int × Int) × Bool) × (Int × Int × Int × Int × Int) × Bool × List Int × List Int)) × (((Int × Int × ((Int × Int)) × ((Int × Int)) × Int × Int) × (Int × Int × Int × Int × Int × Int × Int × Int × Int × Int × Int × ((Int × Int)) × Int × Int × Int × Bool) × Bool × (Int × Int × Int × Int × Int) × (Int × Int × Int × Int × Int) × Bool × List Int × List Int) → Option (((Int × Int × Int × Int × Int) × Bool) × (Int × Int × Int × Int × Int) × Bool × List Int × List Int))) (v : (Int × Int × ((Int × Int)) × ((Int × Int)) × Int × Int) × (Int × Int × Int × Int × Int × Int × Int × Int × Int × Int × Int × ((Int × Int)) × Int × Int × Int × Bool) × Bool × (Int × Int × Int × Int × Int) × (Int × Int × Int × Int × Int) × Bool × List Int × List Int) : Option (((Int × Int × Int × Int × Int) × Bool) × (Int × Int × Int × Int × Int) × Bool × List Int × List Int) :=
  bif (decide (v.1.2.2.2.2.2 < v.1.2.2.2.2.1)) then
    (F25_0 ((v.1.2.2.2.1, false), (v.2.1, (v.2.2.2.2.1, (v.2.2.2.2.2.2.2, (v.2.2.2.2.2.2.1, v.2.2.1)))))).bind fun r1742 =>
    (F25_0 ((v.1.2.2.2.1, true), (r1742.1, (r1742.2.1, (r1742.2.2.2.2, (r1742.2.2.2.1, r1742.2.2.1)))))).bind fun r1743 =>
    (chk (flOk (v.1.2.2.2.1.1 + (1 : Int)) && flOk (v.1.2.2.2.1.2 + (0 : Int)))).bind fun _ =>
    let x1744 : Int := (IntKind.wrap .i64 (v.1.2.2.2.2.2 + (1 : Int)))
    K.2 ((v.1.1, (v.1.2.1, (v.1.2.2.1, (((v.1.2.2.2.1.1 + (1 : Int)), (v.1.2.2.2.1.2 + (0 : Int))), (v.1.2.2.2.2.1, x1744))))), (r1743.1, (r1743.2.2.1, (v.2.2.2.1, (r1743.2.1, (v.2.2.2.2.2.1, r1743.2.2.2))))))
  else
    (chk (flOk (v.1.2.2.1.1 + (0 : Int)) && flOk (v.1.2.2.1.2 + (1 : Int)))).bind fun _ =>
    let x1745 : Int := (IntKind.wrap .i64 (v.1.2.1 - (1 : Int)))
    K.1 ((v.1.1, (x1745, ((v.1.2.2.1.1 + (0 : Int)), (v.1.2.2.1.2 + (1 : Int))))), v.2)

def E7_0 (K : (((Int × Int × (Int × Int)) × (Int × Int × Int × Int × Int × Int × Int × Int × Int × Int × Int × ((Int × Int)) × Int × Int × Int × Bool) × Bool × (Int × Int × Int × Int × Int) × (Int × Int × Int × Int × Int) × Bool × List Int × List Int) → Option (((Int × Int × Int × Int × Int) × Bool) × (Int × Int × Int × Int × Int) × Bool × List Int × List Int)) × (((Int × Int × ((Int × Int)) × ((Int × Int)) × Int × Int) × (Int × Int × Int × Int × Int × Int × Int × Int × Int × Int × Int × ((Int × Int)) × Int × Int × Int × Bool) × Bool × (Int × Int × Int × Int × Int) × (Int × Int × Int × Int × Int) × Bool × List Int × List Int) → Option (((Int × Int × Int × Int × Int) × Bool) × (Int × Int × Int × Int × Int) × Bool × List Int × List Int))) (v : ((Int × Int × Int) × (Int × Int × Int) × Int) × (Int × Int × Int × Int × Int) × List Int × List Int × Bool) : Option (((Int × Int × Int × Int × Int) × Bool) × (Int × Int × Int × Int × Int) × Bool × List Int × List Int) :=
  (F21_0 v.1).bind fun r1726 =>
  bif (!r1726) then
    some ((((0 : Int), ((0 : Int), ((0 : Int), ((0 : Int), (0 : Int))))), false), (v.2.1, (v.2.2.2.2, (v.2.2.2.1, v.2.2.1))))
  else
    (F22_0 ((v.1.1.1, v.1.1.2.1), (v.2.1, (v.2.2.1, v.2.2.2.1)))).bind fun r1727 =>
    (F23_0 (v.1, false)).bind fun r1728 =>
    (F22_0 ((r1728.1.1, r1728.1.2.1), (r1727.2.1, (r1727.2.2.2, r1727.2.2.1)))).bind fun r1729 =>
    (chk (flOk r1727.1.1)).bind fun _ =>
    (chk (flOk r1727.1.2.1)).bind fun _ =>
    (F24_0 (r1729.2.1, (r1729.2.2.2, r1729.2.2.1))).bind fun r1730 =>
    let x1731 : Int := (IntKind.wrap .i64 (v.1.2.2 + (1 : Int)))
    let x1732 : Int := (if r1729.1.1 < r1727.1.1 then r1729.1.1 else r1727.1.1)
    (chk (flOk x1732)).bind fun _ =>
    let x1733 : Int := (if r1729.1.2.1 < r1727.1.2.1 then r1729.1.2.1 else r1727.1.2.1)
    (chk (flOk x1733)).bind fun _ =>
    let x1734 : Int := (if r1729.1.1 > r1727.1.1 then r1729.1.1 else r1727.1.1)
    let x1735 : Int := (if r1729.1.1 < r1727.1.1 then r1729.1.1 else r1727.1.1)
    let x1736 : Int := (IntKind.wrap .i64 (x1734 - x1735))
    let x1737 : Int := (IntKind.wrap .i64 (x1736 + (1 : Int)))
    let x1738 : Int := (if r1729.1.2.1 > r1727.1.2.1 then r1729.1.2.1 else r1727.1.2.1)
    let x1739 : Int := (if r1729.1.2.1 < r1727.1.2.1 then r1729.1.2.1 else r1727.1.2.1)
    let x1740 : Int := (IntKind.wrap .i64 (x1738 - x1739))
    let x1741 : Int := (IntKind.wrap .i64 (x1740 + (1 : Int)))
    K.1 ((x1737, (x1741, (x1732, x1733))), ((v.1.1.1, (v.1.1.2.1, (v.1.1.2.2, (v.1.2.1.1, (v.1.2.1.2.1, (v.1.2.1.2.2, (x1731, ((0 : Int), ((0 : Int), ((0 : Int), ((0 : Int), ((r1727.1.1, r1727.1.2.1), (r1727.1.2.2.1, (r1727.1.2.2.2, (r1730.1, false))))))))))))))), (r1728.2, (((0 : Int), ((0 : Int), ((0 : Int), ((0 : Int), (0 : Int))))), (r1730.2.1, (v.2.2.2.2, r1730.2.2))))))

def K7_0 : Nat → (((Int × Int × (Int × Int)) × (Int × Int × Int × Int × Int × Int × Int × Int × Int × Int × Int × ((Int × Int)) × Int × Int × Int × Bool) × Bool × (Int × Int × Int × Int × Int) × (Int × Int × Int × Int × Int) × Bool × List Int × List Int) → Option (((Int × Int × Int × Int × Int) × Bool) × (Int × Int × Int × Int × Int) × Bool × List Int × List Int)) × (((Int × Int × ((Int × Int)) × ((Int × Int)) × Int × Int) × (Int × Int × Int × Int × Int × Int × Int × Int × Int × Int × Int × ((Int × Int)) × Int × Int × Int × Bool) × Bool × (Int × Int × Int × Int × Int) × (Int × Int × Int × Int × Int) × Bool × List Int × List Int) → Option (((Int × Int × Int × Int × Int) × Bool) × (Int × Int × Int × Int × Int) × Bool × List Int × List Int))
  | 0 => (fun _ => none, fun _ => none)
  | n + 1 => (B7_0_11 (K7_0 n), B7_0_15 (K7_0 n))
def fuel7_0 (v : ((Int × Int × Int) × (Int × Int × Int) × Int) × (Int × Int × Int × Int × Int) × List Int × List Int × Bool) : Nat := 1000
def F7_0 (v : ((Int × Int × Int) × (Int × Int × Int) × Int) × (Int × Int × Int × Int × Int) × List Int × List Int × Bool) : Option (((Int × Int × Int × Int × Int) × Bool) × (Int × Int × Int × Int × Int) × Bool × List Int × List Int) := E7_0 (K7_0 (fuel7_0 v)) v
noncomputable def k7_0 : List (Known Tryz.prog E) := [Known.of envOk [9, 9, 1] [(.agg [.keep, .keep, .keep]), (.agg [.keep, .keep, .keep]), .keep] v21_0 F21_0 w21_0 ok21_0, Known.of envOk [5, 1, 1] [(.ptr 0 0 61 [.keep, .keep, .keep, .keep, .keep, (.own 1 22), (.own 2 3)]), .keep, .keep] v22_0 F22_0 w22_0 ok22_0, Known.of envOk [5, 9, 9, 1] [(.ptr 0 0 47 [.keep]), (.agg [.keep, .keep, .keep]), (.agg [.keep, .keep, .keep]), .keep] v23_0 F23_0 w23_0 ok23_0, Known.of envOk [5] [(.ptr 0 0 61 [.keep, .keep, .keep, .keep, .keep, (.own 1 22), (.own 2 3)])] v24_0 F24_0 w24_0 ok24_0, Known.of envOk [5, 15, 2] [(.ptr 0 0 78 [(.ptr 1 0 47 [.keep]), (.ptr 2 0 61 [.keep, .keep, .keep, .keep, .keep, (.own 3 22), (.own 4 3)]), .keep, .keep, .keep, .keep, .keep, .keep, .keep, .keep, .keep, .keep, .keep, .keep, .keep, .keep, .keep, .keep]), .keep, .keep] v25_0 F25_0 w25_0 ok25_0]
def s7_0_15 : List (Nat × Pat) := [(10, (.ptr 4 0 51 [.keep, .keep, .keep, .keep, .keep])), (22, (.ptr 5 0 78 [(.ptr 6 0 47 [.keep]), (.ptr 1 0 61 []), .keep, .keep, .keep, .keep, .keep, .keep, .keep, .keep, .keep, .keep, .keep, .keep, .keep, .keep, .keep, .keep])), (24, .keep), (25, .keep), (26, .keep), (27, .keep), (118, .keep), (119, .keep)]
def s7_0_11 : List (Nat × Pat) := [(10, (.ptr 4 0 51 [.keep, .keep, .keep, .keep, .keep])), (22, (.ptr 5 0 78 [(.ptr 6 0 47 [.keep]), (.ptr 1 0 61 []), .keep, .keep, .keep, .keep, .keep, .keep, .keep, .keep, .keep, .keep, .keep, .keep, .keep, .keep, .keep, .keep])), (24, .keep), (25, .keep), (26, .keep)]
noncomputable def L7_0 (n id : Nat) (st : St G) : Option (((Int × Int × Int × Int × Int) × Bool) × (Int × Int × Int × Int × Int) × Bool × List Int × List Int) := match Nat.beq id 11 with | true => cutK Tryz.prog s7_0_11 [(.own 3 3), (.own 2 22), (.ptr 0 0 47 [.keep]), (.ptr 1 0 61 [.keep, .keep, .keep, .keep, .keep, (.own 2 22), (.own 3 3)])] c7_0_11.dec (K7_0 n).1 st | false => match Nat.beq id 15 with | true => cutK Tryz.prog s7_0_15 [(.own 3 3), (.own 2 22), (.ptr 0 0 47 [.keep]), (.ptr 1 0 61 [.keep, .keep, .keep, .keep, .keep, (.own 2 22), (.own 3 3)])] c7_0_15.dec (K7_0 n).2 st | false => none
set_option maxRecDepth 100000 in
theorem e7_0 (n : Nat) (v : ((Int × Int × Int) × (Int × Int × Int) × Int) × (Int × Int × Int × Int × Int) × List Int × List Int × Bool) : ev Tryz.prog E (oracle k7_0) Tryz.f7.ntmps (fun x => mem x [11, 15]) (L7_0 n) (finF Tryz.prog E Tryz.f7.results.toList [[(.own 3 3), (.own 2 22), (.ptr 0 0 47 [.keep]), (.ptr 1 0 61 [.keep, .keep, .keep, .keep, .keep, (.own 2 22), (.own 3 3)])]] w7_0.alts) 4000 [.code (Tryz.f7.body.getD .skip)] (argSt (v7_0.enc v)) = E7_0 (K7_0 n) v := by kernel_rfl
set_option maxRecDepth 100000 in
theorem b7_0_11 (n : Nat) (v : (Int × Int × (Int × Int)) × (Int × Int × Int × Int × Int × Int × Int × Int × Int × Int × Int × ((Int × Int)) × Int × Int × Int × Bool) × Bool × (Int × Int × Int × Int × Int) × (Int × Int × Int × Int × Int) × Bool × List Int × List Int) : evCut Tryz.prog E (oracle k7_0) false 7 Tryz.f7.ntmps (fun x => mem x [11, 15]) (L7_0 n) (finF Tryz.prog E Tryz.f7.results.toList [[(.own 3 3), (.own 2 22), (.ptr 0 0 47 [.keep]), (.ptr 1 0 61 [.keep, .keep, .keep, .keep, .keep, (.own 2 22), (.own 3 3)])]] w7_0.alts) 4000 (todoAt (Tryz.f7.body.getD .skip) 11) (cutSt s7_0_11 (c7_0_11.enc v)) = B7_0_11 (K7_0 n) v := by kernel_rfl
set_option maxRecDepth 100000 in
theorem b7_0_15 (n : Nat) (v : (Int × Int × ((Int × Int)) × ((Int × Int)) × Int × Int) × (Int × Int × Int × Int × Int × Int × Int × Int × Int × Int × Int × ((Int × Int)) × Int × Int × Int × Bool) × Bool × (Int × Int × Int × Int × Int) × (Int × Int × Int × Int × Int) × Bool × List Int × List Int) : evCut Tryz.prog E (oracle k7_0) false 7 Tryz.f7.ntmps (fun x => mem x [11, 15]) (L7_0 n) (finF Tryz.prog E Tryz.f7.results.toList [[(.own 3 3), (.own 2 22), (.ptr 0 0 47 [.keep]), (.ptr 1 0 61 [.keep, .keep, .keep, .keep, .keep, (.own 2 22), (.own 3 3)])]] w7_0.alts) 4000 (todoAt (Tryz.f7.body.getD .skip) 15) (cutSt s7_0_15 (c7_0_15.enc v)) = B7_0_15 (K7_0 n) v := by kernel_rfl
theorem ok7_0 : FnOk Tryz.prog E 7 v7_0.enc F7_0 w7_0.enc :=
  fn_known (fn := Tryz.f7) (c := (Tryz.f7.body.getD .skip)) Tryz.func7 (by kernel_rfl) rfl envOk (oracle_ok k7_0) mixed v7_0 F7_0 w7_0 [(.own 3 3), (.own 2 22), (.ptr 0 0 47 [.keep]), (.ptr 1 0 61 [.keep, .keep, .keep, .keep, .keep, (.own 2 22), (.own 3 3)])] [[(.own 3 3), (.own 2 22), (.ptr 0 0 47 [.keep]), (.ptr 1 0 61 [.keep, .keep, .keep, .keep, .keep, (.own 2 22), (.own 3 3)])]] (by kernel_rfl) [11, 15] 4000 L7_0 (by kernel_rfl)
    (List.forall_mem_cons.2 ⟨⟨_, [(.own 3 3), (.own 2 22), (.ptr 0 0 47 [.keep]), (.ptr 1 0 61 [.keep, .keep, .keep, .keep, .keep, (.own 2 22), (.own 3 3)])], s7_0_11, c7_0_11.dec, c7_0_11.enc, fun n => (K7_0 n).1, c7_0_11.ok, fun _ _ => rfl, fun _ => rfl, by kernel_rfl, fun n v _ h => (b7_0_11 n v).trans h⟩, List.forall_mem_cons.2 ⟨⟨_, [(.own 3 3), (.own 2 22), (.ptr 0 0 47 [.keep]), (.ptr 1 0 61 [.keep, .keep, .keep, .keep, .keep, (.own 2 22), (.own 3 3)])], s7_0_15, c7_0_15.dec, c7_0_15.enc, fun n => (K7_0 n).2, c7_0_15.ok, fun _ _ => rfl, fun _ => rfl, by kernel_rfl, fun n v _ h => (b7_0_15 n v).trans h⟩, fun _ h => (nomatch h)⟩⟩) (fun v _ h => ⟨fuel7_0 v, (e7_0 _ v).trans h⟩) (fun _ => by kernel_rfl) (fun _ => by kernel_rfl) (fun _ _ => by kernel_rfl)
/- chicane/chicanelaw13.awake -/
abbrev A5_0 : Type := Unit
abbrev R5_0 : Type := Bool
def v5_0 : Pk G Unit := (Pk.snd (pk Sh.nil Sh.hnil))
def w5_0 : Wk G Bool := (Wk.one [.keep] (Pk.fst (pk (Sh.fst (Sh.cons Sh.bool Sh.nil)) Sh.hnil)))
def F5_0 (v : Unit) : Option Bool :=
  (F11_0 ()).bind fun r1756 =>
  (F6_0 (r1756.1.1, (r1756.1.2.1, (r1756.1.2.2.1, (r1756.1.2.2.2.1, (r1756.1.2.2.2.2.1, (r1756.1.2.2.2.2.2.1, (r1756.2.2.2, (r1756.2.2.1, (r1756.2.1, (([] : List (Int × Int)), (([] : List (List (Int × Int))), (([] : List (Int × Int × Int × Int × Bool)), r1756.1.2.2.2.2.2.2))))))))))))).bind fun r1757 =>
  match r1757 with
  | .inl r1758 =>
    bif (r1758 != (0 : Int)) then
      some (false)
    else
      some (false)
  | .inr r1759 =>
    bif (r1759.1 != (0 : Int)) then
      some (false)
    else
      (F7_0 ((((4294967296 : Int), ((8589934592 : Int), (12884901888 : Int))), (((0 : Int), ((0 : Int), (-4294967296 : Int))), (21474836480 : Int))), (r1759.2.1, (r1759.2.2.1, (r1759.2.2.2, false))))).bind fun r1760 =>
      (F7_0 ((((4294967296 : Int), ((0 : Int), (12884901888 : Int))), (((0 : Int), ((0 : Int), (-4294967296 : Int))), (8589934592 : Int))), (r1760.2.1, (r1760.2.2.2.2, (r1760.2.2.2.1, r1760.2.2.1))))).bind fun r1761 =>
      bif r1760.1.2 then
        bif (r1760.1.1.1 == (12884901888 : Int)) then
          let x1762 : Bool := ((r1760.1.1.2.1 == (0 : Int)) && ((r1760.1.1.2.2.1 == (0 : Int)) && ((r1760.1.1.2.2.2.1 == (4294967296 : Int)) && true)))
          bif x1762 then
            bif (!r1761.1.2) then
              some (!r1761.2.2.1)
            else
              some (false)
          else
            some (false)
        else
          some (false)
      else
        some (false)

noncomputable def k5_0 : List (Known Tryz.prog E) := [Known.of envOk [] [] v11_0 F11_0 w11_0 ok11_0, Known.of envOk [9] [(.agg [.keep, .keep, .keep, .keep, .keep, .keep, (.ros 22), (.ros 3), (.ros 64), (.ros 24), (.ros 28), (.ros 187), .keep, .keep, .keep, .keep])] v6_0 F6_0 w6_0 ok6_0, Known.of envOk [5, 5, 9, 9, 1] [(.ptr 0 0 47 [.keep]), (.ptr 1 0 61 [.keep, .keep, .keep, .keep, .keep, (.own 2 22), (.own 3 3)]), (.agg [.keep, .keep, .keep]), (.agg [.keep, .keep, .keep]), .keep] v7_0 F7_0 w7_0 ok7_0]
noncomputable def L5_0 (n id : Nat) (st : St G) : Option Bool := none
set_option maxRecDepth 100000 in
theorem e5_0 (n : Nat) (v : Unit) : ev Tryz.prog E (oracle k5_0) Tryz.f5.ntmps (fun x => mem x []) (L5_0 n) (finF Tryz.prog E Tryz.f5.results.toList [[]] w5_0.alts) 4000 [.code (Tryz.f5.body.getD .skip)] (argSt (v5_0.enc v)) = F5_0 v := by kernel_rfl
theorem ok5_0 : FnOk Tryz.prog E 5 v5_0.enc F5_0 w5_0.enc :=
  fn_known (fn := Tryz.f5) (c := (Tryz.f5.body.getD .skip)) Tryz.func5 (by kernel_rfl) rfl envOk (oracle_ok k5_0) mixed v5_0 F5_0 w5_0 [] [[]] (by kernel_rfl) [] 4000 L5_0 (by kernel_rfl)
    (fun _ h => nomatch h) (fun v _ h => ⟨0, (e5_0 _ v).trans h⟩) (fun _ => by kernel_rfl) (fun _ => by kernel_rfl) (fun _ _ => by kernel_rfl)
/- chicane/ray.Cast -/
abbrev A7_1 : Type := ((Int × Int × Int) × (Int × Int × Int) × Int) × Bool
abbrev R7_1 : Type := ((Int × Int × Int × Int × Int) × Bool) × Bool
def v7_1 : Pk G (((Int × Int × Int) × (Int × Int × Int) × Int) × Bool) := (pk (Sh.snd (Sh.cons (Sh.ptr 0 0) (Sh.snd (Sh.cons Sh.nilptr (Sh.cons (Sh.agg (Sh.cons (Sh.int .i64) (Sh.cons (Sh.int .i64) (Sh.fst (Sh.cons (Sh.int .i64) Sh.nil))))) (Sh.cons (Sh.agg (Sh.cons (Sh.int .i64) (Sh.cons (Sh.int .i64) (Sh.fst (Sh.cons (Sh.int .i64) Sh.nil))))) (Sh.fst (Sh.cons (Sh.int .i64) Sh.nil)))))))) (Sh.fst (Sh.hfix 0 47 (Sh.fst (Sh.cons Sh.bool Sh.nil)) Sh.hnil)))
def w7_1 : Wk G (((Int × Int × Int × Int × Int) × Bool) × Bool) := (Wk.one [(.agg [.keep, .keep, .keep, .keep, .keep]), .keep] (pk (Sh.cons (Sh.agg (Sh.cons (Sh.int .i64) (Sh.cons (Sh.int .i64) (Sh.cons (Sh.int .i64) (Sh.cons (Sh.int .i64) (Sh.fst (Sh.cons (Sh.int .i64) Sh.nil))))))) (Sh.fst (Sh.cons Sh.bool Sh.nil))) (Sh.fst (Sh.hfix 0 47 (Sh.fst (Sh.cons Sh.bool Sh.nil)) Sh.hnil))))
def F7_1 (v : ((Int × Int × Int) × (Int × Int × Int) × Int) × Bool) : Option (((Int × Int × Int × Int × Int) × Bool) × Bool) :=
  some ((((0 : Int), ((0 : Int), ((0 : Int), ((0 : Int), (0 : Int))))), false), v.2)

noncomputable def k7_1 : List (Known Tryz.prog E) := []
noncomputable def L7_1 (n id : Nat) (st : St G) : Option (((Int × Int × Int × Int × Int) × Bool) × Bool) := none
set_option maxRecDepth 100000 in
theorem e7_1 (n : Nat) (v : ((Int × Int × Int) × (Int × Int × Int) × Int) × Bool) : ev Tryz.prog E (oracle k7_1) Tryz.f7.ntmps (fun x => mem x []) (L7_1 n) (finF Tryz.prog E Tryz.f7.results.toList [[(.ptr 0 0 47 [.keep])]] w7_1.alts) 4000 [.code (Tryz.f7.body.getD .skip)] (argSt (v7_1.enc v)) = F7_1 v := by kernel_rfl
theorem ok7_1 : FnOk Tryz.prog E 7 v7_1.enc F7_1 w7_1.enc :=
  fn_known (fn := Tryz.f7) (c := (Tryz.f7.body.getD .skip)) Tryz.func7 (by kernel_rfl) rfl envOk (oracle_ok k7_1) mixed v7_1 F7_1 w7_1 [(.ptr 0 0 47 [.keep])] [[(.ptr 0 0 47 [.keep])]] (by kernel_rfl) [] 4000 L7_1 (by kernel_rfl)
    (fun _ h => nomatch h) (fun v _ h => ⟨0, (e7_1 _ v).trans h⟩) (fun _ => by kernel_rfl) (fun _ => by kernel_rfl) (fun _ _ => by kernel_rfl)
/- chicane/chicaneref13.in -/
abbrev A53_0 : Type := Int × Int
abbrev R53_0 : Type := Bool
def v53_0 : Pk G (Int × Int) := (Pk.fst (pk (Sh.cons (Sh.int .i64) (Sh.fst (Sh.cons (Sh.int .i64) Sh.nil))) Sh.hnil))
def w53_0 : Wk G Bool := (Wk.one [.keep] (Pk.fst (pk (Sh.fst (Sh.cons Sh.bool Sh.nil)) Sh.hnil)))
def F53_0 (v : Int × Int) : Option Bool :=
  bif (decide (v.1 ≤ v.2)) then
    let x1770 : Int := (IntKind.wrap .i64 (0 - v.2))
    some (decide (v.1 ≥ x1770))
  else
    some (false)

noncomputable def k53_0 : List (Known Tryz.prog E) := []
noncomputable def L53_0 (n id : Nat) (st : St G) : Option Bool := none
set_option maxRecDepth 100000 in
theorem e53_0 (n : Nat) (v : Int × Int) : ev Tryz.prog E (oracle k53_0) Tryz.f53.ntmps (fun x => mem x []) (L53_0 n) (finF Tryz.prog E Tryz.f53.results.toList [[]] w53_0.alts) 4000 [.code (Tryz.f53.body.getD .skip)] (argSt (v53_0.enc v)) = F53_0 v := by kernel_rfl
theorem ok53_0 : FnOk Tryz.prog E 53 v53_0.enc F53_0 w53_0.enc :=
  fn_known (fn := Tryz.f53) (c := (Tryz.f53.body.getD .skip)) Tryz.func53 (by kernel_rfl) rfl envOk (oracle_ok k53_0) mixed v53_0 F53_0 w53_0 [] [[]] (by kernel_rfl) [] 4000 L53_0 (by kernel_rfl)
    (fun _ h => nomatch h) (fun v _ h => ⟨0, (e53_0 _ v).trans h⟩) (fun _ => by kernel_rfl) (fun _ => by kernel_rfl) (fun _ _ => by kernel_rfl)
/- chicane/chicaneref13.May -/
abbrev A26_0 : Type := (Int × Int × Int) × (Int × Int × Int) × Int
abbrev R26_0 : Type := Bool
def v26_0 : Pk G ((Int × Int × Int) × (Int × Int × Int) × Int) := (Pk.fst (pk (Sh.cons (Sh.agg (Sh.cons (Sh.int .i64) (Sh.cons (Sh.int .i64) (Sh.fst (Sh.cons (Sh.int .i64) Sh.nil))))) (Sh.cons (Sh.agg (Sh.cons (Sh.int .i64) (Sh.cons (Sh.int .i64) (Sh.fst (Sh.cons (Sh.int .i64) Sh.nil))))) (Sh.fst (Sh.cons (Sh.int .i64) Sh.nil)))) Sh.hnil))
def w26_0 : Wk G Bool := (Wk.one [.keep] (Pk.fst (pk (Sh.fst (Sh.cons Sh.bool Sh.nil)) Sh.hnil)))
def F26_0 (v : (Int × Int × Int) × (Int × Int × Int) × Int) : Option Bool :=
  (F53_0 (v.1.1, (281474976710656 : Int))).bind fun r1783 =>
  bif r1783 then
    (F53_0 (v.1.2.1, (281474976710656 : Int))).bind fun r1784 =>
    bif r1784 then
      (F53_0 (v.1.2.2, (4398046511104 : Int))).bind fun r1785 =>
      bif r1785 then
        (F53_0 (v.2.1.1, (4294967296 : Int))).bind fun r1786 =>
        bif r1786 then
          (F53_0 (v.2.1.2.1, (4294967296 : Int))).bind fun r1787 =>
          bif r1787 then
            (F53_0 (v.2.1.2.2, (4294967296 : Int))).bind fun r1788 =>
            bif r1788 then
              bif (decide (v.2.2 ≥ (0 : Int))) then
                some (decide (v.2.2 ≤ (274877906944 : Int)))
              else
                some (false)
            else
              some (false)
          else
            some (false)
        else
          some (false)
      else
        some (false)
    else
      some (false)
  else
    some (false)

noncomputable def k26_0 : List (Known Tryz.prog E) := [Known.of envOk [1, 1] [.keep, .keep] v53_0 F53_0 w53_0 ok53_0]
noncomputable def L26_0 (n id : Nat) (st : St G) : Option Bool := none
set_option maxRecDepth 100000 in
theorem e26_0 (n : Nat) (v : (Int × Int × Int) × (Int × Int × Int) × Int) : ev Tryz.prog E (oracle k26_0) Tryz.f26.ntmps (fun x => mem x []) (L26_0 n) (finF Tryz.prog E Tryz.f26.results.toList [[]] w26_0.alts) 4000 [.code (Tryz.f26.body.getD .skip)] (argSt (v26_0.enc v)) = F26_0 v := by kernel_rfl
theorem ok26_0 : FnOk Tryz.prog E 26 v26_0.enc F26_0 w26_0.enc :=
  fn_known (fn := Tryz.f26) (c := (Tryz.f26.body.getD .skip)) Tryz.func26 (by kernel_rfl) rfl envOk (oracle_ok k26_0) mixed v26_0 F26_0 w26_0 [] [[]] (by kernel_rfl) [] 4000 L26_0 (by kernel_rfl)
    (fun _ h => nomatch h) (fun v _ h => ⟨0, (e26_0 _ v).trans h⟩) (fun _ => by kernel_rfl) (fun _ => by kernel_rfl) (fun _ _ => by kernel_rfl)
/- (*chicane/chicaneref02.M).bound -/
abbrev A77_0 : Type := Bool × Bool
abbrev R77_0 : Type := Int × Bool
def v77_0 : Pk G (Bool × Bool) := (pk (Sh.snd (Sh.cons (Sh.ptr 0 0) (Sh.fst (Sh.cons Sh.bool Sh.nil)))) (Sh.fst (Sh.hfix 0 49 (Sh.fst (Sh.cons Sh.bool Sh.nil)) Sh.hnil)))
def w77_0 : Wk G (Int × Bool) := (Wk.one [.keep] (pk (Sh.fst (Sh.cons (Sh.int .i64) Sh.nil)) (Sh.fst (Sh.hfix 0 49 (Sh.fst (Sh.cons Sh.bool Sh.nil)) Sh.hnil))))
def F77_0 (v : Bool × Bool) : Option (Int × Bool) :=
  bif v.1 then
    some ((-9223372036854775808 : Int), true)
  else
    some ((9223372036854775807 : Int), true)

noncomputable def k77_0 : List (Known Tryz.prog E) := []
noncomputable def L77_0 (n id : Nat) (st : St G) : Option (Int × Bool) := none
set_option maxRecDepth 100000 in
theorem e77_0 (n : Nat) (v : Bool × Bool) : ev Tryz.prog E (oracle k77_0) Tryz.f77.ntmps (fun x => mem x []) (L77_0 n) (finF Tryz.prog E Tryz.f77.results.toList [[(.ptr 0 0 49 [.keep])]] w77_0.alts) 4000 [.code (Tryz.f77.body.getD .skip)] (argSt (v77_0.enc v)) = F77_0 v := by kernel_rfl
theorem ok77_0 : FnOk Tryz.prog E 77 v77_0.enc F77_0 w77_0.enc :=
  fn_known (fn := Tryz.f77) (c := (Tryz.f77.body.getD .skip)) Tryz.func77 (by kernel_rfl) rfl envOk (oracle_ok k77_0) mixed v77_0 F77_0 w77_0 [(.ptr 0 0 49 [.keep])] [[(.ptr 0 0 49 [.keep])]] (by kernel_rfl) [] 4000 L77_0 (by kernel_rfl)
    (fun _ h => nomatch h) (fun v _ h => ⟨0, (e77_0 _ v).trans h⟩) (fun _ => by kernel_rfl) (fun _ => by kernel_rfl) (fun _ _ => by kernel_rfl)
/- chicane/chicaneref01.Size -/
abbrev A78_0 : Type := Int
abbrev R78_0 : Type := Int
def v78_0 : Pk G Int := (Pk.fst (pk (Sh.fst (Sh.cons (Sh.int .i64) Sh.nil)) Sh.hnil))
def w78_0 : Wk G Int := (Wk.one [.keep] (Pk.fst (pk (Sh.fst (Sh.cons (Sh.int .u64) Sh.nil)) Sh.hnil)))
def F78_0 (v : Int) : Option Int :=
  bif (decide (v < (0 : Int))) then
    let x1822 : Int := (IntKind.wrap .i64 (v + (1 : Int)))
    let x1823 : Int := (IntKind.wrap .i64 (0 - x1822))
    let x1824 : Int := (IntKind.wrap .u64 x1823)
    let x1825 : Int := (IntKind.wrap .u64 (x1824 + (1 : Int)))
    some (x1825)
  else
    let x1826 : Int := (IntKind.wrap .u64 v)
    some (x1826)

noncomputable def k78_0 : List (Known Tryz.prog E) := []
noncomputable def L78_0 (n id : Nat) (st : St G) : Option Int := none
set_option maxRecDepth 100000 in
theorem e78_0 (n : Nat) (v : Int) : ev Tryz.prog E (oracle k78_0) Tryz.f78.ntmps (fun x => mem x []) (L78_0 n) (finF Tryz.prog E Tryz.f78.results.toList [[]] w78_0.alts) 4000 [.code (Tryz.f78.body.getD .skip)] (argSt (v78_0.enc v)) = F78_0 v := by kernel_rfl
theorem ok78_0 : FnOk Tryz.prog E 78 v78_0.enc F78_0 w78_0.enc :=
  fn_known (fn := Tryz.f78) (c := (Tryz.f78.body.getD .skip)) Tryz.func78 (by kernel_rfl) rfl envOk (oracle_ok k78_0) mixed v78_0 F78_0 w78_0 [] [[]] (by kernel_rfl) [] 4000 L78_0 (by kernel_rfl)
    (fun _ h => nomatch h) (fun v _ h => ⟨0, (e78_0 _ v).trans h⟩) (fun _ => by kernel_rfl) (fun _ => by kernel_rfl) (fun _ _ => by kernel_rfl)
/- chicane/chicaneref02.over -/
abbrev A80_0 : Type := Int × Int
abbrev R80_0 : Type := Int × Bool
def v80_0 : Pk G (Int × Int) := (Pk.fst (pk (Sh.cons (Sh.int .u64) (Sh.fst (Sh.cons (Sh.int .u64) Sh.nil))) Sh.hnil))
def w80_0 : Wk G (Int × Bool) := (Wk.one [.keep, .keep] (Pk.fst (pk (Sh.cons (Sh.int .u64) (Sh.fst (Sh.cons Sh.bool Sh.nil))) Sh.hnil)))
def c80_0_4 : Pk G (Int × Int × Int × Int × Int) := (Pk.fst (pk (Sh.cons (Sh.int .u64) (Sh.cons (Sh.int .u64) (Sh.cons (Sh.int .u64) (Sh.cons (Sh.int .u64) (Sh.fst (Sh.cons (Sh.int .i64) Sh.nil)))))) Sh.hnil))
def B80_0_4 (K : ((Int × Int × Int × Int × Int) → Option (Int × Bool))) (v : Int × Int × Int × Int × Int) : Option (Int × Bool) :=
  bif (decide (v.2.2.2.2 ≥ (0 : Int))) then
    bif (decide (v.2.2.2.2 ≥ (32 : Int))) then
      let x1877 : Int := (IntKind.wrap .i64 (v.2.2.2.2 - (32 : Int)))
      let x1878 : Int := (IntKind.wrap .u64 x1877)
      (chk (decide (0 ≤ x1878))).bind fun _ =>
      let x1879 : Int := (Int.fdiv v.1 (2 ^ min (x1878).toNat 64))
      let x1880 : Int := (Int.tmod x1879 (2 : Int))
      let x1881 : Int := (IntKind.wrap .u64 ((2 : Int) * v.2.2.2.1))
      let x1882 : Int := (IntKind.wrap .u64 (x1881 + x1880))
      bif (decide (v.2.2.1 ≥ (9223372036854775808 : Int))) then
        some ((0 : Int), false)
      else
        let x1883 : Int := (IntKind.wrap .u64 ((2 : Int) * v.2.2.1))
        bif (decide (x1882 ≥ v.2.1)) then
          let x1884 : Int := (IntKind.wrap .u64 (x1882 - v.2.1))
          let x1885 : Int := (IntKind.wrap .u64 (x1883 + (1 : Int)))
          let x1886 : Int := (IntKind.wrap .i64 (v.2.2.2.2 - (1 : Int)))
          K (v.1, (v.2.1, (x1885, (x1884, x1886))))
        else
          let x1887 : Int := (IntKind.wrap .i64 (v.2.2.2.2 - (1 : Int)))
          K (v.1, (v.2.1, (x1883, (x1882, x1887))))
    else
      let x1888 : Int := (IntKind.wrap .u64 ((2 : Int) * v.2.2.2.1))
      let x1889 : Int := (IntKind.wrap .u64 (x1888 + (0 : Int)))
      bif (decide (v.2.2.1 ≥ (9223372036854775808 : Int))) then
        some ((0 : Int), false)
      else
        let x1890 : Int := (IntKind.wrap .u64 ((2 : Int) * v.2.2.1))
        bif (decide (x1889 ≥ v.2.1)) then
          let x1891 : Int := (IntKind.wrap .u64 (x1889 - v.2.1))
          let x1892 : Int := (IntKind.wrap .u64 (x1890 + (1 : Int)))
          let x1893 : Int := (IntKind.wrap .i64 (v.2.2.2.2 - (1 : Int)))
          K (v.1, (v.2.1, (x1892, (x1891, x1893))))
        else
          let x1894 : Int := (IntKind.wrap .i64 (v.2.2.2.2 - (1 : Int)))
          K (v.1, (v.2.1, (x1890, (x1889, x1894))))
  else
    let x1895 : Int := (IntKind.wrap .u64 (v.2.1 - v.2.2.2.1))
    bif (decide (v.2.2.2.1 > x1895)) then
      let x1896 : Int := (IntKind.wrap .u64 (v.2.2.1 + (1 : Int)))
      bif (x1896 == (0 : Int)) then
        some ((0 : Int), false)
      else
        some (x1896, true)
    else
      let x1897 : Int := (IntKind.wrap .u64 (v.2.1 - v.2.2.2.1))
      bif (v.2.2.2.1 == x1897) then
        let x1898 : Int := (Int.tmod v.2.2.1 (2 : Int))
        bif (x1898 == (1 : Int)) then
          let x1899 : Int := (IntKind.wrap .u64 (v.2.2.1 + (1 : Int)))
          bif (x1899 == (0 : Int)) then
            some ((0 : Int), false)
          else
            some (x1899, true)
        else
          some (v.2.2.1, true)
      else
        some (v.2.2.1, true)

def E80_0 (K : ((Int × Int × Int × Int × Int) → Option (Int × Bool))) (v : Int × Int) : Option (Int × Bool) :=
  K (v.1, (v.2, ((0 : Int), ((0 : Int), (95 : Int)))))

def K80_0 : Nat → ((Int × Int × Int × Int × Int) → Option (Int × Bool))
  | 0 => (fun _ => none)
  | n + 1 => (B80_0_4 (K80_0 n))
def fuel80_0 (v : Int × Int) : Nat := 1000
def F80_0 (v : Int × Int) : Option (Int × Bool) := E80_0 (K80_0 (fuel80_0 v)) v
noncomputable def k80_0 : List (Known Tryz.prog E) := []
def s80_0_4 : List (Nat × Pat) := [(0, .keep), (1, .keep), (6, .keep), (7, .keep), (8, .keep)]
noncomputable def L80_0 (n id : Nat) (st : St G) : Option (Int × Bool) := match Nat.beq id 4 with | true => cutK Tryz.prog s80_0_4 [] c80_0_4.dec (K80_0 n) st | false => none
set_option maxRecDepth 100000 in
theorem e80_0 (n : Nat) (v : Int × Int) : ev Tryz.prog E (oracle k80_0) Tryz.f80.ntmps (fun x => mem x [4]) (L80_0 n) (finF Tryz.prog E Tryz.f80.results.toList [[]] w80_0.alts) 4000 [.code (Tryz.f80.body.getD .skip)] (argSt (v80_0.enc v)) = E80_0 (K80_0 n) v := by kernel_rfl
set_option maxRecDepth 100000 in
theorem b80_0_4 (n : Nat) (v : Int × Int × Int × Int × Int) : evCut Tryz.prog E (oracle k80_0) false 80 Tryz.f80.ntmps (fun x => mem x [4]) (L80_0 n) (finF Tryz.prog E Tryz.f80.results.toList [[]] w80_0.alts) 4000 (todoAt (Tryz.f80.body.getD .skip) 4) (cutSt s80_0_4 (c80_0_4.enc v)) = B80_0_4 (K80_0 n) v := by kernel_rfl
theorem ok80_0 : FnOk Tryz.prog E 80 v80_0.enc F80_0 w80_0.enc :=
  fn_known (fn := Tryz.f80) (c := (Tryz.f80.body.getD .skip)) Tryz.func80 (by kernel_rfl) rfl envOk (oracle_ok k80_0) mixed v80_0 F80_0 w80_0 [] [[]] (by kernel_rfl) [4] 4000 L80_0 (by kernel_rfl)
    (List.forall_mem_cons.2 ⟨⟨_, [], s80_0_4, c80_0_4.dec, c80_0_4.enc, fun n => (K80_0 n), c80_0_4.ok, fun _ _ => rfl, fun _ => rfl, by kernel_rfl, fun n v _ h => (b80_0_4 n v).trans h⟩, fun _ h => (nomatch h)⟩) (fun v _ h => ⟨fuel80_0 v, (e80_0 _ v).trans h⟩) (fun _ => by kernel_rfl) (fun _ => by kernel_rfl) (fun _ _ => by kernel_rfl)
/- (*chicane/chicaneref02.M).signed -/
abbrev A79_0 : Type := (Bool × Int) × Bool
abbrev R79_0 : Type := Int × Bool
def v79_0 : Pk G ((Bool × Int) × Bool) := (pk (Sh.snd (Sh.cons (Sh.ptr 0 0) (Sh.cons Sh.bool (Sh.fst (Sh.cons (Sh.int .u64) Sh.nil))))) (Sh.fst (Sh.hfix 0 49 (Sh.fst (Sh.cons Sh.bool Sh.nil)) Sh.hnil)))
def w79_0 : Wk G (Int × Bool) := (Wk.one [.keep] (pk (Sh.fst (Sh.cons (Sh.int .i64) Sh.nil)) (Sh.fst (Sh.hfix 0 49 (Sh.fst (Sh.cons Sh.bool Sh.nil)) Sh.hnil))))
def F79_0 (v : (Bool × Int) × Bool) : Option (Int × Bool) :=
  bif v.1.1 then
    bif (v.1.2 == (9223372036854775808 : Int)) then
      some ((-9223372036854775808 : Int), v.2)
    else
      bif (decide (v.1.2 > (9223372036854775807 : Int))) then
        (F77_0 (v.1.1, v.2)).bind fun r1918 =>
        some (r1918)
      else
        bif v.1.1 then
          let x1919 : Int := (IntKind.wrap .i64 v.1.2)
          let x1920 : Int := (IntKind.wrap .i64 (0 - x1919))
          some (x1920, v.2)
        else
          let x1921 : Int := (IntKind.wrap .i64 v.1.2)
          some (x1921, v.2)
  else
    bif (decide (v.1.2 > (9223372036854775807 : Int))) then
      (F77_0 (v.1.1, v.2)).bind fun r1922 =>
      some (r1922)
    else
      bif v.1.1 then
        let x1923 : Int := (IntKind.wrap .i64 v.1.2)
        let x1924 : Int := (IntKind.wrap .i64 (0 - x1923))
        some (x1924, v.2)
      else
        let x1925 : Int := (IntKind.wrap .i64 v.1.2)
        some (x1925, v.2)

noncomputable def k79_0 : List (Known Tryz.prog E) := [Known.of envOk [5, 2] [(.ptr 0 0 49 [.keep]), .keep] v77_0 F77_0 w77_0 ok77_0]
noncomputable def L79_0 (n id : Nat) (st : St G) : Option (Int × Bool) := none
set_option maxRecDepth 100000 in
theorem e79_0 (n : Nat) (v : (Bool × Int) × Bool) : ev Tryz.prog E (oracle k79_0) Tryz.f79.ntmps (fun x => mem x []) (L79_0 n) (finF Tryz.prog E Tryz.f79.results.toList [[(.ptr 0 0 49 [.keep])]] w79_0.alts) 4000 [.code (Tryz.f79.body.getD .skip)] (argSt (v79_0.enc v)) = F79_0 v := by kernel_rfl
theorem ok79_0 : FnOk Tryz.prog E 79 v79_0.enc F79_0 w79_0.enc :=
  fn_known (fn := Tryz.f79) (c := (Tryz.f79.body.getD .skip)) Tryz.func79 (by kernel_rfl) rfl envOk (oracle_ok k79_0) mixed v79_0 F79_0 w79_0 [(.ptr 0 0 49 [.keep])] [[(.ptr 0 0 49 [.keep])]] (by kernel_rfl) [] 4000 L79_0 (by kernel_rfl)
    (fun _ h => nomatch h) (fun v _ h => ⟨0, (e79_0 _ v).trans h⟩) (fun _ => by kernel_rfl) (fun _ => by kernel_rfl) (fun _ _ => by kernel_rfl)
/- (*chicane/chicaneref02.M).Div -/
abbrev A58_0 : Type := (Int × Int) × Bool
abbrev R58_0 : Type := Int × Bool
def v58_0 : Pk G ((Int × Int) × Bool) := (pk (Sh.snd (Sh.cons (Sh.ptr 0 0) (Sh.cons (Sh.int .i64) (Sh.fst (Sh.cons (Sh.int .i64) Sh.nil))))) (Sh.fst (Sh.hfix 0 49 (Sh.fst (Sh.cons Sh.bool Sh.nil)) Sh.hnil)))
def w58_0 : Wk G (Int × Bool) := (Wk.one [.keep] (pk (Sh.fst (Sh.cons (Sh.int .i64) Sh.nil)) (Sh.fst (Sh.hfix 0 49 (Sh.fst (Sh.cons Sh.bool Sh.nil)) Sh.hnil))))
def F58_0 (v : (Int × Int) × Bool) : Option (Int × Bool) :=
  bif (v.1.2 == (0 : Int)) then
    bif (v.1.1 == (0 : Int)) then
      some ((0 : Int), true)
    else
      (F77_0 ((decide (v.1.1 < (0 : Int))), true)).bind fun r1933 =>
      some (r1933)
  else
    (F78_0 v.1.1).bind fun r1934 =>
    (F78_0 v.1.2).bind fun r1935 =>
    (F80_0 (r1934, r1935)).bind fun r1936 =>
    bif (!r1936.2) then
      (F77_0 ((!((decide (v.1.1 < (0 : Int))) == (decide (v.1.2 < (0 : Int))))), v.2)).bind fun r1937 =>
      some (r1937)
    else
      (F79_0 (((!((decide (v.1.1 < (0 : Int))) == (decide (v.1.2 < (0 : Int))))), r1936.1), v.2)).bind fun r1938 =>
      some (r1938)

noncomputable def k58_0 : List (Known Tryz.prog E) := [Known.of envOk [5, 2] [(.ptr 0 0 49 [.keep]), .keep] v77_0 F77_0 w77_0 ok77_0, Known.of envOk [1] [.keep] v78_0 F78_0 w78_0 ok78_0, Known.of envOk [1, 1] [.keep, .keep] v80_0 F80_0 w80_0 ok80_0, Known.of envOk [5, 2, 1] [(.ptr 0 0 49 [.keep]), .keep, .keep] v79_0 F79_0 w79_0 ok79_0]
noncomputable def L58_0 (n id : Nat) (st : St G) : Option (Int × Bool) := none
set_option maxRecDepth 100000 in
theorem e58_0 (n : Nat) (v : (Int × Int) × Bool) : ev Tryz.prog E (oracle k58_0) Tryz.f58.ntmps (fun x => mem x []) (L58_0 n) (finF Tryz.prog E Tryz.f58.results.toList [[(.ptr 0 0 49 [.keep])]] w58_0.alts) 4000 [.code (Tryz.f58.body.getD .skip)] (argSt (v58_0.enc v)) = F58_0 v := by kernel_rfl
theorem ok58_0 : FnOk Tryz.prog E 58 v58_0.enc F58_0 w58_0.enc :=
  fn_known (fn := Tryz.f58) (c := (Tryz.f58.body.getD .skip)) Tryz.func58 (by kernel_rfl) rfl envOk (oracle_ok k58_0) mixed v58_0 F58_0 w58_0 [(.ptr 0 0 49 [.keep])] [[(.ptr 0 0 49 [.keep])]] (by kernel_rfl) [] 4000 L58_0 (by kernel_rfl)
    (fun _ h => nomatch h) (fun v _ h => ⟨0, (e58_0 _ v).trans h⟩) (fun _ => by kernel_rfl) (fun _ => by kernel_rfl) (fun _ _ => by kernel_rfl)
/- chicane/chicaneref12.Slopes -/
abbrev A28_0 : Type := ((Int × Int × Int × Int × Int × Int × List Int × List Int × (List (Int × Int × Bool)) × (List (Int × Int)) × (List (List (Int × Int))) × (List (Int × Int × Int × Int × Bool)) × Int × Int × Int × Int) × Int × Int × Bool) × Bool
abbrev R28_0 : Type := (Int × Int) × Bool
def v28_0 : Pk G (((Int × Int × Int × Int × Int × Int × List Int × List Int × (List (Int × Int × Bool)) × (List (Int × Int)) × (List (List (Int × Int))) × (List (Int × Int × Int × Int × Bool)) × Int × Int × Int × Int) × Int × Int × Bool) × Bool) := (pk (Sh.snd (Sh.cons (Sh.ptr 0 0) (Sh.cons (Sh.agg (Sh.cons (Sh.int .i64) (Sh.cons (Sh.int .i64) (Sh.cons (Sh.int .i64) (Sh.cons (Sh.int .i64) (Sh.cons (Sh.int .i64) (Sh.cons (Sh.int .i64) (Sh.cons (Sh.ros 22) (Sh.cons (Sh.ros 3) (Sh.cons (Sh.ros 64) (Sh.cons (Sh.ros 24) (Sh.cons (Sh.ros 28) (Sh.cons (Sh.ros 187) (Sh.cons (Sh.int .i64) (Sh.cons (Sh.int .i64) (Sh.cons (Sh.int .u32) (Sh.fst (Sh.cons (Sh.int .i64) Sh.nil)))))))))))))))))) (Sh.cons (Sh.int .i64) (Sh.cons (Sh.int .i64) (Sh.fst (Sh.cons Sh.bool Sh.nil))))))) (Sh.fst (Sh.hfix 0 49 (Sh.fst (Sh.cons Sh.bool Sh.nil)) Sh.hnil)))
def w28_0 : Wk G ((Int × Int) × Bool) := (Wk.one [.keep, .keep] (pk (Sh.cons (Sh.int .i64) (Sh.fst (Sh.cons (Sh.int .i64) Sh.nil))) (Sh.fst (Sh.hfix 0 49 (Sh.fst (Sh.cons Sh.bool Sh.nil)) Sh.hnil))))
def F28_0 (v : ((Int × Int × Int × Int × Int × Int × List Int × List Int × (List (Int × Int × Bool)) × (List (Int × Int)) × (List (List (Int × Int))) × (List (Int × Int × Int × Int × Bool)) × Int × Int × Int × Int) × Int × Int × Bool) × Bool) : Option ((Int × Int) × Bool) :=
  bif (decide (v.1.2.1 < (0 : Int))) then
    some (((0 : Int), (0 : Int)), v.2)
  else
    bif (decide (v.1.2.1 ≥ v.1.1.2.2.1)) then
      some (((0 : Int), (0 : Int)), v.2)
    else
      bif (decide (v.1.2.2.1 < (0 : Int))) then
        some (((0 : Int), (0 : Int)), v.2)
      else
        bif (decide (v.1.2.2.1 ≥ v.1.1.2.2.2.1)) then
          some (((0 : Int), (0 : Int)), v.2)
        else
          let x1966 : Int := (IntKind.wrap .i64 (v.1.1.2.2.1 + (1 : Int)))
          let x1967 : Int := (IntKind.wrap .i64 (v.1.2.2.1 * x1966))
          let x1968 : Int := (IntKind.wrap .i64 (x1967 + v.1.2.1))
          (rdx v.1.1.2.2.2.2.2.2.1 x1968).bind fun (x1969 : Int) =>
          let x1970 : Int := (IntKind.wrap .i64 (x1968 + (1 : Int)))
          (rdx v.1.1.2.2.2.2.2.2.1 x1970).bind fun (x1971 : Int) =>
          let x1972 : Int := (IntKind.wrap .i64 (x1968 + v.1.1.2.2.1))
          let x1973 : Int := (IntKind.wrap .i64 (x1972 + (1 : Int)))
          (rdx v.1.1.2.2.2.2.2.2.1 x1973).bind fun (x1974 : Int) =>
          let x1975 : Int := (IntKind.wrap .i64 (x1968 + v.1.1.2.2.1))
          let x1976 : Int := (IntKind.wrap .i64 (x1975 + (2 : Int)))
          (rdx v.1.1.2.2.2.2.2.2.1 x1976).bind fun (x1977 : Int) =>
          bif v.1.2.2.2 then
            let x1978 : Int := (IntKind.wrap .i64 (x1977 - x1974))
            (F58_0 ((x1978, v.1.1.2.1), v.2)).bind fun r1979 =>
            let x1980 : Int := (IntKind.wrap .i64 (x1974 - x1969))
            (F58_0 ((x1980, v.1.1.2.1), r1979.2)).bind fun r1981 =>
            some ((r1979.1, r1981.1), r1981.2)
          else
            let x1982 : Int := (IntKind.wrap .i64 (x1971 - x1969))
            (F58_0 ((x1982, v.1.1.2.1), v.2)).bind fun r1983 =>
            let x1984 : Int := (IntKind.wrap .i64 (x1977 - x1971))
            (F58_0 ((x1984, v.1.1.2.1), r1983.2)).bind fun r1985 =>
            some ((r1983.1, r1985.1), r1985.2)

noncomputable def k28_0 : List (Known Tryz.prog E) := [Known.of envOk [5, 1, 1] [(.ptr 0 0 49 [.keep]), .keep, .keep] v58_0 F58_0 w58_0 ok58_0]
noncomputable def L28_0 (n id : Nat) (st : St G) : Option ((Int × Int) × Bool) := none
set_option maxRecDepth 100000 in
theorem e28_0 (n : Nat) (v : ((Int × Int × Int × Int × Int × Int × List Int × List Int × (List (Int × Int × Bool)) × (List (Int × Int)) × (List (List (Int × Int))) × (List (Int × Int × Int × Int × Bool)) × Int × Int × Int × Int) × Int × Int × Bool) × Bool) : ev Tryz.prog E (oracle k28_0) Tryz.f28.ntmps (fun x => mem x []) (L28_0 n) (finF Tryz.prog E Tryz.f28.results.toList [[(.ptr 0 0 49 [.keep])]] w28_0.alts) 4000 [.code (Tryz.f28.body.getD .skip)] (argSt (v28_0.enc v)) = F28_0 v := by kernel_rfl
theorem ok28_0 : FnOk Tryz.prog E 28 v28_0.enc F28_0 w28_0.enc :=
  fn_known (fn := Tryz.f28) (c := (Tryz.f28.body.getD .skip)) Tryz.func28 (by kernel_rfl) rfl envOk (oracle_ok k28_0) mixed v28_0 F28_0 w28_0 [(.ptr 0 0 49 [.keep])] [[(.ptr 0 0 49 [.keep])]] (by kernel_rfl) [] 4000 L28_0 (by kernel_rfl)
    (fun _ h => nomatch h) (fun v _ h => ⟨0, (e28_0 _ v).trans h⟩) (fun _ => by kernel_rfl) (fun _ => by kernel_rfl) (fun _ _ => by kernel_rfl)
/- (*chicane/chicaneref02.M).Mul -/
abbrev A55_0 : Type := (Int × Int) × Bool
abbrev R55_0 : Type := Int × Bool
def v55_0 : Pk G ((Int × Int) × Bool) := (pk (Sh.snd (Sh.cons (Sh.ptr 0 0) (Sh.cons (Sh.int .i64) (Sh.fst (Sh.cons (Sh.int .i64) Sh.nil))))) (Sh.fst (Sh.hfix 0 49 (Sh.fst (Sh.cons Sh.bool Sh.nil)) Sh.hnil)))
def w55_0 : Wk G (Int × Bool) := (Wk.one [.keep] (pk (Sh.fst (Sh.cons (Sh.int .i64) Sh.nil)) (Sh.fst (Sh.hfix 0 49 (Sh.fst (Sh.cons Sh.bool Sh.nil)) Sh.hnil))))
def F55_0 (v : (Int × Int) × Bool) : Option (Int × Bool) :=
  (F78_0 v.1.1).bind fun r2095 =>
  (F78_0 v.1.2).bind fun r2096 =>
  let x2097 : Int := (IntKind.wrap .u64 (Int.tdiv r2095 (4294967296 : Int)))
  let x2098 : Int := (Int.tmod r2095 (4294967296 : Int))
  let x2099 : Int := (IntKind.wrap .u64 (Int.tdiv r2096 (4294967296 : Int)))
  let x2100 : Int := (Int.tmod r2096 (4294967296 : Int))
  let x2101 : Int := (IntKind.wrap .u64 (x2098 * x2100))
  let x2102 : Int := (Int.tmod x2101 (4294967296 : Int))
  let x2103 : Int := (IntKind.wrap .u64 (x2097 * x2099))
  bif (decide (x2103 ≥ (4294967296 : Int))) then
    (F77_0 ((!((decide (v.1.1 < (0 : Int))) == (decide (v.1.2 < (0 : Int))))), v.2)).bind fun r2104 =>
    some (r2104)
  else
    let x2105 : Int := (IntKind.wrap .u64 (x2097 * x2099))
    let x2106 : Int := (IntKind.wrap .u64 (x2105 * (4294967296 : Int)))
    let x2107 : Int := (IntKind.wrap .u64 (x2097 * x2100))
    let x2111 : Int := (IntKind.wrap .u64 (x2106 + x2107))
    bif (decide (x2111 < x2106)) then
      (F77_0 ((!((decide (v.1.1 < (0 : Int))) == (decide (v.1.2 < (0 : Int))))), v.2)).bind fun r2112 =>
      some (r2112)
    else
      let x2113 : Int := (IntKind.wrap .u64 (x2106 + x2107))
      let x2115 : Int := (IntKind.wrap .u64 (x2098 * x2099))
      let x2118 : Int := (IntKind.wrap .u64 (x2113 + x2115))
      bif (decide (x2118 < x2113)) then
        (F77_0 ((!((decide (v.1.1 < (0 : Int))) == (decide (v.1.2 < (0 : Int))))), v.2)).bind fun r2119 =>
        some (r2119)
      else
        let x2120 : Int := (IntKind.wrap .u64 (x2113 + x2115))
        let x2123 : Int := (IntKind.wrap .u64 (x2098 * x2100))
        let x2124 : Int := (IntKind.wrap .u64 (Int.tdiv x2123 (4294967296 : Int)))
        let x2125 : Int := (IntKind.wrap .u64 (x2120 + x2124))
        bif (decide (x2125 < x2120)) then
          (F77_0 ((!((decide (v.1.1 < (0 : Int))) == (decide (v.1.2 < (0 : Int))))), v.2)).bind fun r2126 =>
          some (r2126)
        else
          let x2127 : Int := (IntKind.wrap .u64 (x2120 + x2124))
          bif (decide (x2102 > (2147483648 : Int))) then
            let x2132 : Int := (IntKind.wrap .u64 (x2127 + (1 : Int)))
            bif (decide (x2132 < x2127)) then
              (F77_0 ((!((decide (v.1.1 < (0 : Int))) == (decide (v.1.2 < (0 : Int))))), v.2)).bind fun r2133 =>
              some (r2133)
            else
              let x2134 : Int := (IntKind.wrap .u64 (x2127 + (1 : Int)))
              (F79_0 (((!((decide (v.1.1 < (0 : Int))) == (decide (v.1.2 < (0 : Int))))), x2134), v.2)).bind fun r2135 =>
              some (r2135)
          else
            bif (x2102 == (2147483648 : Int)) then
              let x2136 : Int := (Int.tmod x2127 (2 : Int))
              bif (x2136 == (1 : Int)) then
                let x2137 : Int := (IntKind.wrap .u64 (x2127 + (1 : Int)))
                bif (decide (x2137 < x2127)) then
                  (F77_0 ((!((decide (v.1.1 < (0 : Int))) == (decide (v.1.2 < (0 : Int))))), v.2)).bind fun r2138 =>
                  some (r2138)
                else
                  let x2139 : Int := (IntKind.wrap .u64 (x2127 + (1 : Int)))
                  (F79_0 (((!((decide (v.1.1 < (0 : Int))) == (decide (v.1.2 < (0 : Int))))), x2139), v.2)).bind fun r2140 =>
                  some (r2140)
              else
                let x2141 : Int := (IntKind.wrap .u64 (x2127 + (0 : Int)))
                bif (decide (x2141 < x2127)) then
                  (F77_0 ((!((decide (v.1.1 < (0 : Int))) == (decide (v.1.2 < (0 : Int))))), v.2)).bind fun r2142 =>
                  some (r2142)
                else
                  let x2143 : Int := (IntKind.wrap .u64 (x2127 + (0 : Int)))
                  (F79_0 (((!((decide (v.1.1 < (0 : Int))) == (decide (v.1.2 < (0 : Int))))), x2143), v.2)).bind fun r2144 =>
                  some (r2144)
            else
              let x2145 : Int := (IntKind.wrap .u64 (x2127 + (0 : Int)))
              bif (decide (x2145 < x2127)) then
                (F77_0 ((!((decide (v.1.1 < (0 : Int))) == (decide (v.1.2 < (0 : Int))))), v.2)).bind fun r2146 =>
                some (r2146)
              else
                let x2147 : Int := (IntKind.wrap .u64 (x2127 + (0 : Int)))
                (F79_0 (((!((decide (v.1.1 < (0 : Int))) == (decide (v.1.2 < (0 : Int))))), x2147), v.2)).bind fun r2148 =>
                some (r2148)

noncomputable def k55_0 : List (Known Tryz.prog E) := [Known.of envOk [1] [.keep] v78_0 F78_0 w78_0 ok78_0, Known.of envOk [5, 2] [(.ptr 0 0 49 [.keep]), .keep] v77_0 F77_0 w77_0 ok77_0, Known.of envOk [5, 2, 1] [(.ptr 0 0 49 [.keep]), .keep, .keep] v79_0 F79_0 w79_0 ok79_0]
noncomputable def L55_0 (n id : Nat) (st : St G) : Option (Int × Bool) := none
set_option maxRecDepth 100000 in
theorem e55_0 (n : Nat) (v : (Int × Int) × Bool) : ev Tryz.prog E (oracle k55_0) Tryz.f55.ntmps (fun x => mem x []) (L55_0 n) (finF Tryz.prog E Tryz.f55.results.toList [[(.ptr 0 0 49 [.keep])]] w55_0.alts) 4000 [.code (Tryz.f55.body.getD .skip)] (argSt (v55_0.enc v)) = F55_0 v := by kernel_rfl
theorem ok55_0 : FnOk Tryz.prog E 55 v55_0.enc F55_0 w55_0.enc :=
  fn_known (fn := Tryz.f55) (c := (Tryz.f55.body.getD .skip)) Tryz.func55 (by kernel_rfl) rfl envOk (oracle_ok k55_0) mixed v55_0 F55_0 w55_0 [(.ptr 0 0 49 [.keep])] [[(.ptr 0 0 49 [.keep])]] (by kernel_rfl) [] 4000 L55_0 (by kernel_rfl)
    (fun _ h => nomatch h) (fun v _ h => ⟨0, (e55_0 _ v).trans h⟩) (fun _ => by kernel_rfl) (fun _ => by kernel_rfl) (fun _ _ => by kernel_rfl)
/- (*chicane/chicaneref02.M).Sub -/
abbrev A54_0 : Type := (Int × Int) × Bool
abbrev R54_0 : Type := Int × Bool
def v54_0 : Pk G ((Int × Int) × Bool) := (pk (Sh.snd (Sh.cons (Sh.ptr 0 0) (Sh.cons (Sh.int .i64) (Sh.fst (Sh.cons (Sh.int .i64) Sh.nil))))) (Sh.fst (Sh.hfix 0 49 (Sh.fst (Sh.cons Sh.bool Sh.nil)) Sh.hnil)))
def w54_0 : Wk G (Int × Bool) := (Wk.one [.keep] (pk (Sh.fst (Sh.cons (Sh.int .i64) Sh.nil)) (Sh.fst (Sh.hfix 0 49 (Sh.fst (Sh.cons Sh.bool Sh.nil)) Sh.hnil))))
def F54_0 (v : (Int × Int) × Bool) : Option (Int × Bool) :=
  bif (decide (v.1.2 < (0 : Int))) then
    let x2170 : Int := (IntKind.wrap .i64 ((9223372036854775807 : Int) + v.1.2))
    bif (decide (v.1.1 > x2170)) then
      (F77_0 (false, v.2)).bind fun r2171 =>
      some (r2171)
    else
      bif (decide (v.1.2 > (0 : Int))) then
        let x2172 : Int := (IntKind.wrap .i64 ((-9223372036854775808 : Int) + v.1.2))
        bif (decide (v.1.1 < x2172)) then
          (F77_0 (true, v.2)).bind fun r2173 =>
          some (r2173)
        else
          let x2174 : Int := (IntKind.wrap .i64 (v.1.1 - v.1.2))
          some (x2174, v.2)
      else
        let x2175 : Int := (IntKind.wrap .i64 (v.1.1 - v.1.2))
        some (x2175, v.2)
  else
    bif (decide (v.1.2 > (0 : Int))) then
      let x2176 : Int := (IntKind.wrap .i64 ((-9223372036854775808 : Int) + v.1.2))
      bif (decide (v.1.1 < x2176)) then
        (F77_0 (true, v.2)).bind fun r2177 =>
        some (r2177)
      else
        let x2178 : Int := (IntKind.wrap .i64 (v.1.1 - v.1.2))
        some (x2178, v.2)
    else
      let x2179 : Int := (IntKind.wrap .i64 (v.1.1 - v.1.2))
      some (x2179, v.2)

noncomputable def k54_0 : List (Known Tryz.prog E) := [Known.of envOk [5, 2] [(.ptr 0 0 49 [.keep]), .keep] v77_0 F77_0 w77_0 ok77_0]
noncomputable def L54_0 (n id : Nat) (st : St G) : Option (Int × Bool) := none
set_option maxRecDepth 100000 in
theorem e54_0 (n : Nat) (v : (Int × Int) × Bool) : ev Tryz.prog E (oracle k54_0) Tryz.f54.ntmps (fun x => mem x []) (L54_0 n) (finF Tryz.prog E Tryz.f54.results.toList [[(.ptr 0 0 49 [.keep])]] w54_0.alts) 4000 [.code (Tryz.f54.body.getD .skip)] (argSt (v54_0.enc v)) = F54_0 v := by kernel_rfl
theorem ok54_0 : FnOk Tryz.prog E 54 v54_0.enc F54_0 w54_0.enc :=
  fn_known (fn := Tryz.f54) (c := (Tryz.f54.body.getD .skip)) Tryz.func54 (by kernel_rfl) rfl envOk (oracle_ok k54_0) mixed v54_0 F54_0 w54_0 [(.ptr 0 0 49 [.keep])] [[(.ptr 0 0 49 [.keep])]] (by kernel_rfl) [] 4000 L54_0 (by kernel_rfl)
    (fun _ h => nomatch h) (fun v _ h => ⟨0, (e54_0 _ v).trans h⟩) (fun _ => by kernel_rfl) (fun _ => by kernel_rfl) (fun _ _ => by kernel_rfl)
/- chicane/chicaneref12.Base -/
abbrev A57_0 : Type := (Int × Int × Int × Int × Int × Int × List Int × List Int × (List (Int × Int × Bool)) × (List (Int × Int)) × (List (List (Int × Int))) × (List (Int × Int × Int × Int × Bool)) × Int × Int × Int × Int) × Int × Int
abbrev R57_0 : Type := Int
def v57_0 : Pk G ((Int × Int × Int × Int × Int × Int × List Int × List Int × (List (Int × Int × Bool)) × (List (Int × Int)) × (List (List (Int × Int))) × (List (Int × Int × Int × Int × Bool)) × Int × Int × Int × Int) × Int × Int) := (Pk.fst (pk (Sh.cons (Sh.agg (Sh.cons (Sh.int .i64) (Sh.cons (Sh.int .i64) (Sh.cons (Sh.int .i64) (Sh.cons (Sh.int .i64) (Sh.cons (Sh.int .i64) (Sh.cons (Sh.int .i64) (Sh.cons (Sh.ros 22) (Sh.cons (Sh.ros 3) (Sh.cons (Sh.ros 64) (Sh.cons (Sh.ros 24) (Sh.cons (Sh.ros 28) (Sh.cons (Sh.ros 187) (Sh.cons (Sh.int .i64) (Sh.cons (Sh.int .i64) (Sh.cons (Sh.int .u32) (Sh.fst (Sh.cons (Sh.int .i64) Sh.nil)))))))))))))))))) (Sh.cons (Sh.int .i64) (Sh.fst (Sh.cons (Sh.int .i64) Sh.nil)))) Sh.hnil))
def w57_0 : Wk G Int := (Wk.one [.keep] (Pk.fst (pk (Sh.fst (Sh.cons (Sh.int .i64) Sh.nil)) Sh.hnil)))
def F57_0 (v : (Int × Int × Int × Int × Int × Int × List Int × List Int × (List (Int × Int × Bool)) × (List (Int × Int)) × (List (List (Int × Int))) × (List (Int × Int × Int × Int × Bool)) × Int × Int × Int × Int) × Int × Int) : Option Int :=
  bif (decide (v.2.1 < (0 : Int))) then
    some (0 : Int)
  else
    bif (decide (v.2.1 ≥ v.1.2.2.1)) then
      some (0 : Int)
    else
      bif (decide (v.2.2 < (0 : Int))) then
        some (0 : Int)
      else
        bif (decide (v.2.2 ≥ v.1.2.2.2.1)) then
          some (0 : Int)
        else
          let x2197 : Int := (IntKind.wrap .i64 (v.1.2.2.1 + (1 : Int)))
          let x2198 : Int := (IntKind.wrap .i64 (v.2.2 * x2197))
          let x2199 : Int := (IntKind.wrap .i64 (x2198 + v.2.1))
          (rdx v.1.2.2.2.2.2.2.1 x2199).bind fun (x2200 : Int) =>
          some (x2200)

noncomputable def k57_0 : List (Known Tryz.prog E) := []
noncomputable def L57_0 (n id : Nat) (st : St G) : Option Int := none
set_option maxRecDepth 100000 in
theorem e57_0 (n : Nat) (v : (Int × Int × Int × Int × Int × Int × List Int × List Int × (List (Int × Int × Bool)) × (List (Int × Int)) × (List (List (Int × Int))) × (List (Int × Int × Int × Int × Bool)) × Int × Int × Int × Int) × Int × Int) : ev Tryz.prog E (oracle k57_0) Tryz.f57.ntmps (fun x => mem x []) (L57_0 n) (finF Tryz.prog E Tryz.f57.results.toList [[]] w57_0.alts) 4000 [.code (Tryz.f57.body.getD .skip)] (argSt (v57_0.enc v)) = F57_0 v := by kernel_rfl
theorem ok57_0 : FnOk Tryz.prog E 57 v57_0.enc F57_0 w57_0.enc :=
  fn_known (fn := Tryz.f57) (c := (Tryz.f57.body.getD .skip)) Tryz.func57 (by kernel_rfl) rfl envOk (oracle_ok k57_0) mixed v57_0 F57_0 w57_0 [] [[]] (by kernel_rfl) [] 4000 L57_0 (by kernel_rfl)
    (fun _ h => nomatch h) (fun v _ h => ⟨0, (e57_0 _ v).trans h⟩) (fun _ => by kernel_rfl) (fun _ => by kernel_rfl) (fun _ _ => by kernel_rfl)
/- (*chicane/chicaneref02.M).Add -/
abbrev A56_0 : Type := (Int × Int) × Bool
abbrev R56_0 : Type := Int × Bool
def v56_0 : Pk G ((Int × Int) × Bool) := (pk (Sh.snd (Sh.cons (Sh.ptr 0 0) (Sh.cons (Sh.int .i64) (Sh.fst (Sh.cons (Sh.int .i64) Sh.nil))))) (Sh.fst (Sh.hfix 0 49 (Sh.fst (Sh.cons Sh.bool Sh.nil)) Sh.hnil)))
def w56_0 : Wk G (Int × Bool) := (Wk.one [.keep] (pk (Sh.fst (Sh.cons (Sh.int .i64) Sh.nil)) (Sh.fst (Sh.hfix 0 49 (Sh.fst (Sh.cons Sh.bool Sh.nil)) Sh.hnil))))
def F56_0 (v : (Int × Int) × Bool) : Option (Int × Bool) :=
  bif (decide (v.1.2 > (0 : Int))) then
    let x2223 : Int := (IntKind.wrap .i64 ((9223372036854775807 : Int) - v.1.2))
    bif (decide (v.1.1 > x2223)) then
      (F77_0 (false, v.2)).bind fun r2224 =>
      some (r2224)
    else
      bif (decide (v.1.2 < (0 : Int))) then
        let x2225 : Int := (IntKind.wrap .i64 ((-9223372036854775808 : Int) - v.1.2))
        bif (decide (v.1.1 < x2225)) then
          (F77_0 (true, v.2)).bind fun r2226 =>
          some (r2226)
        else
          let x2227 : Int := (IntKind.wrap .i64 (v.1.1 + v.1.2))
          some (x2227, v.2)
      else
        let x2228 : Int := (IntKind.wrap .i64 (v.1.1 + v.1.2))
        some (x2228, v.2)
  else
    bif (decide (v.1.2 < (0 : Int))) then
      let x2229 : Int := (IntKind.wrap .i64 ((-9223372036854775808 : Int) - v.1.2))
      bif (decide (v.1.1 < x2229)) then
        (F77_0 (true, v.2)).bind fun r2230 =>
        some (r2230)
      else
        let x2231 : Int := (IntKind.wrap .i64 (v.1.1 + v.1.2))
        some (x2231, v.2)
    else
      let x2232 : Int := (IntKind.wrap .i64 (v.1.1 + v.1.2))
      some (x2232, v.2)

noncomputable def k56_0 : List (Known Tryz.prog E) := [Known.of envOk [5, 2] [(.ptr 0 0 49 [.keep]), .keep] v77_0 F77_0 w77_0 ok77_0]
noncomputable def L56_0 (n id : Nat) (st : St G) : Option (Int × Bool) := none
set_option maxRecDepth 100000 in
theorem e56_0 (n : Nat) (v : (Int × Int) × Bool) : ev Tryz.prog E (oracle k56_0) Tryz.f56.ntmps (fun x => mem x []) (L56_0 n) (finF Tryz.prog E Tryz.f56.results.toList [[(.ptr 0 0 49 [.keep])]] w56_0.alts) 4000 [.code (Tryz.f56.body.getD .skip)] (argSt (v56_0.enc v)) = F56_0 v := by kernel_rfl
theorem ok56_0 : FnOk Tryz.prog E 56 v56_0.enc F56_0 w56_0.enc :=
  fn_known (fn := Tryz.f56) (c := (Tryz.f56.body.getD .skip)) Tryz.func56 (by kernel_rfl) rfl envOk (oracle_ok k56_0) mixed v56_0 F56_0 w56_0 [(.ptr 0 0 49 [.keep])] [[(.ptr 0 0 49 [.keep])]] (by kernel_rfl) [] 4000 L56_0 (by kernel_rfl)
    (fun _ h => nomatch h) (fun v _ h => ⟨0, (e56_0 _ v).trans h⟩) (fun _ => by kernel_rfl) (fun _ => by kernel_rfl) (fun _ _ => by kernel_rfl)
/- (*chicane/chicaneref02.M).Neg -/
abbrev A59_0 : Type := Int × Bool
abbrev R59_0 : Type := Int × Bool
def v59_0 : Pk G (Int × Bool) := (pk (Sh.snd (Sh.cons (Sh.ptr 0 0) (Sh.fst (Sh.cons (Sh.int .i64) Sh.nil)))) (Sh.fst (Sh.hfix 0 49 (Sh.fst (Sh.cons Sh.bool Sh.nil)) Sh.hnil)))
def w59_0 : Wk G (Int × Bool) := (Wk.one [.keep] (pk (Sh.fst (Sh.cons (Sh.int .i64) Sh.nil)) (Sh.fst (Sh.hfix 0 49 (Sh.fst (Sh.cons Sh.bool Sh.nil)) Sh.hnil))))
def F59_0 (v : Int × Bool) : Option (Int × Bool) :=
  (F54_0 (((0 : Int), v.1), v.2)).bind fun r2239 =>
  some (r2239)

noncomputable def k59_0 : List (Known Tryz.prog E) := [Known.of envOk [5, 1, 1] [(.ptr 0 0 49 [.keep]), .keep, .keep] v54_0 F54_0 w54_0 ok54_0]
noncomputable def L59_0 (n id : Nat) (st : St G) : Option (Int × Bool) := none
set_option maxRecDepth 100000 in
theorem e59_0 (n : Nat) (v : Int × Bool) : ev Tryz.prog E (oracle k59_0) Tryz.f59.ntmps (fun x => mem x []) (L59_0 n) (finF Tryz.prog E Tryz.f59.results.toList [[(.ptr 0 0 49 [.keep])]] w59_0.alts) 4000 [.code (Tryz.f59.body.getD .skip)] (argSt (v59_0.enc v)) = F59_0 v := by kernel_rfl
theorem ok59_0 : FnOk Tryz.prog E 59 v59_0.enc F59_0 w59_0.enc :=
  fn_known (fn := Tryz.f59) (c := (Tryz.f59.body.getD .skip)) Tryz.func59 (by kernel_rfl) rfl envOk (oracle_ok k59_0) mixed v59_0 F59_0 w59_0 [(.ptr 0 0 49 [.keep])] [[(.ptr 0 0 49 [.keep])]] (by kernel_rfl) [] 4000 L59_0 (by kernel_rfl)
    (fun _ h => nomatch h) (fun v _ h => ⟨0, (e59_0 _ v).trans h⟩) (fun _ => by kernel_rfl) (fun _ => by kernel_rfl) (fun _ _ => by kernel_rfl)
/- chicane/chicaneref05.Scale -/
abbrev A82_0 : Type := ((Int × Int × Int) × Int) × Bool
abbrev R82_0 : Type := (Int × Int × Int) × Bool
def v82_0 : Pk G (((Int × Int × Int) × Int) × Bool) := (pk (Sh.snd (Sh.cons (Sh.ptr 0 0) (Sh.cons (Sh.agg (Sh.cons (Sh.int .i64) (Sh.cons (Sh.int .i64) (Sh.fst (Sh.cons (Sh.int .i64) Sh.nil))))) (Sh.fst (Sh.cons (Sh.int .i64) Sh.nil))))) (Sh.fst (Sh.hfix 0 49 (Sh.fst (Sh.cons Sh.bool Sh.nil)) Sh.hnil)))
def w82_0 : Wk G ((Int × Int × Int) × Bool) := (Wk.one [(.agg [.keep, .keep, .keep])] (pk (Sh.fst (Sh.cons (Sh.agg (Sh.cons (Sh.int .i64) (Sh.cons (Sh.int .i64) (Sh.fst (Sh.cons (Sh.int .i64) Sh.nil))))) Sh.nil)) (Sh.fst (Sh.hfix 0 49 (Sh.fst (Sh.cons Sh.bool Sh.nil)) Sh.hnil))))
def F82_0 (v : ((Int × Int × Int) × Int) × Bool) : Option ((Int × Int × Int) × Bool) :=
  (F55_0 ((v.1.1.1, v.1.2), v.2)).bind fun r2248 =>
  (F55_0 ((v.1.1.2.1, v.1.2), r2248.2)).bind fun r2249 =>
  (F55_0 ((v.1.1.2.2, v.1.2), r2249.2)).bind fun r2250 =>
  some ((r2248.1, (r2249.1, r2250.1)), r2250.2)

noncomputable def k82_0 : List (Known Tryz.prog E) := [Known.of envOk [5, 1, 1] [(.ptr 0 0 49 [.keep]), .keep, .keep] v55_0 F55_0 w55_0 ok55_0]
noncomputable def L82_0 (n id : Nat) (st : St G) : Option ((Int × Int × Int) × Bool) := none
set_option maxRecDepth 100000 in
theorem e82_0 (n : Nat) (v : ((Int × Int × Int) × Int) × Bool) : ev Tryz.prog E (oracle k82_0) Tryz.f82.ntmps (fun x => mem x []) (L82_0 n) (finF Tryz.prog E Tryz.f82.results.toList [[(.ptr 0 0 49 [.keep])]] w82_0.alts) 4000 [.code (Tryz.f82.body.getD .skip)] (argSt (v82_0.enc v)) = F82_0 v := by kernel_rfl
theorem ok82_0 : FnOk Tryz.prog E 82 v82_0.enc F82_0 w82_0.enc :=
  fn_known (fn := Tryz.f82) (c := (Tryz.f82.body.getD .skip)) Tryz.func82 (by kernel_rfl) rfl envOk (oracle_ok k82_0) mixed v82_0 F82_0 w82_0 [(.ptr 0 0 49 [.keep])] [[(.ptr 0 0 49 [.keep])]] (by kernel_rfl) [] 4000 L82_0 (by kernel_rfl)
    (fun _ h => nomatch h) (fun v _ h => ⟨0, (e82_0 _ v).trans h⟩) (fun _ => by kernel_rfl) (fun _ => by kernel_rfl) (fun _ _ => by kernel_rfl)
/- chicane/chicaneref05.Add -/
abbrev A81_0 : Type := ((Int × Int × Int) × Int × Int × Int) × Bool
abbrev R81_0 : Type := (Int × Int × Int) × Bool
def v81_0 : Pk G (((Int × Int × Int) × Int × Int × Int) × Bool) := (pk (Sh.snd (Sh.cons (Sh.ptr 0 0) (Sh.cons (Sh.agg (Sh.cons (Sh.int .i64) (Sh.cons (Sh.int .i64) (Sh.fst (Sh.cons (Sh.int .i64) Sh.nil))))) (Sh.fst (Sh.cons (Sh.agg (Sh.cons (Sh.int .i64) (Sh.cons (Sh.int .i64) (Sh.fst (Sh.cons (Sh.int .i64) Sh.nil))))) Sh.nil))))) (Sh.fst (Sh.hfix 0 49 (Sh.fst (Sh.cons Sh.bool Sh.nil)) Sh.hnil)))
def w81_0 : Wk G ((Int × Int × Int) × Bool) := (Wk.one [(.agg [.keep, .keep, .keep])] (pk (Sh.fst (Sh.cons (Sh.agg (Sh.cons (Sh.int .i64) (Sh.cons (Sh.int .i64) (Sh.fst (Sh.cons (Sh.int .i64) Sh.nil))))) Sh.nil)) (Sh.fst (Sh.hfix 0 49 (Sh.fst (Sh.cons Sh.bool Sh.nil)) Sh.hnil))))
def F81_0 (v : ((Int × Int × Int) × Int × Int × Int) × Bool) : Option ((Int × Int × Int) × Bool) :=
  (F56_0 ((v.1.1.1, v.1.2.1), v.2)).bind fun r2258 =>
  (F56_0 ((v.1.1.2.1, v.1.2.2.1), r2258.2)).bind fun r2259 =>
  (F56_0 ((v.1.1.2.2, v.1.2.2.2), r2259.2)).bind fun r2260 =>
  some ((r2258.1, (r2259.1, r2260.1)), r2260.2)

noncomputable def k81_0 : List (Known Tryz.prog E) := [Known.of envOk [5, 1, 1] [(.ptr 0 0 49 [.keep]), .keep, .keep] v56_0 F56_0 w56_0 ok56_0]
noncomputable def L81_0 (n id : Nat) (st : St G) : Option ((Int × Int × Int) × Bool) := none
set_option maxRecDepth 100000 in
theorem e81_0 (n : Nat) (v : ((Int × Int × Int) × Int × Int × Int) × Bool) : ev Tryz.prog E (oracle k81_0) Tryz.f81.ntmps (fun x => mem x []) (L81_0 n) (finF Tryz.prog E Tryz.f81.results.toList [[(.ptr 0 0 49 [.keep])]] w81_0.alts) 4000 [.code (Tryz.f81.body.getD .skip)] (argSt (v81_0.enc v)) = F81_0 v := by kernel_rfl
theorem ok81_0 : FnOk Tryz.prog E 81 v81_0.enc F81_0 w81_0.enc :=
  fn_known (fn := Tryz.f81) (c := (Tryz.f81.body.getD .skip)) Tryz.func81 (by kernel_rfl) rfl envOk (oracle_ok k81_0) mixed v81_0 F81_0 w81_0 [(.ptr 0 0 49 [.keep])] [[(.ptr 0 0 49 [.keep])]] (by kernel_rfl) [] 4000 L81_0 (by kernel_rfl)
    (fun _ h => nomatch h) (fun v _ h => ⟨0, (e81_0 _ v).trans h⟩) (fun _ => by kernel_rfl) (fun _ => by kernel_rfl) (fun _ _ => by kernel_rfl)
/- chicane/chicaneref13.Point -/
abbrev A60_0 : Type := ((Int × Int × Int) × (Int × Int × Int) × Int) × Bool
abbrev R60_0 : Type := (Int × Int × Int) × Bool
def v60_0 : Pk G (((Int × Int × Int) × (Int × Int × Int) × Int) × Bool) := (pk (Sh.snd (Sh.cons (Sh.ptr 0 0) (Sh.cons (Sh.agg (Sh.cons (Sh.int .i64) (Sh.cons (Sh.int .i64) (Sh.fst (Sh.cons (Sh.int .i64) Sh.nil))))) (Sh.cons (Sh.agg (Sh.cons (Sh.int .i64) (Sh.cons (Sh.int .i64) (Sh.fst (Sh.cons (Sh.int .i64) Sh.nil))))) (Sh.fst (Sh.cons (Sh.int .i64) Sh.nil)))))) (Sh.fst (Sh.hfix 0 49 (Sh.fst (Sh.cons Sh.bool Sh.nil)) Sh.hnil)))
def w60_0 : Wk G ((Int × Int × Int) × Bool) := (Wk.one [(.agg [.keep, .keep, .keep])] (pk (Sh.fst (Sh.cons (Sh.agg (Sh.cons (Sh.int .i64) (Sh.cons (Sh.int .i64) (Sh.fst (Sh.cons (Sh.int .i64) Sh.nil))))) Sh.nil)) (Sh.fst (Sh.hfix 0 49 (Sh.fst (Sh.cons Sh.bool Sh.nil)) Sh.hnil))))
def F60_0 (v : ((Int × Int × Int) × (Int × Int × Int) × Int) × Bool) : Option ((Int × Int × Int) × Bool) :=
  (F82_0 (v.1.2, v.2)).bind fun r2264 =>
  (F81_0 ((v.1.1, r2264.1), r2264.2)).bind fun r2265 =>
  some (r2265)

noncomputable def k60_0 : List (Known Tryz.prog E) := [Known.of envOk [5, 9, 1] [(.ptr 0 0 49 [.keep]), (.agg [.keep, .keep, .keep]), .keep] v82_0 F82_0 w82_0 ok82_0, Known.of envOk [5, 9, 9] [(.ptr 0 0 49 [.keep]), (.agg [.keep, .keep, .keep]), (.agg [.keep, .keep, .keep])] v81_0 F81_0 w81_0 ok81_0]
noncomputable def L60_0 (n id : Nat) (st : St G) : Option ((Int × Int × Int) × Bool) := none
set_option maxRecDepth 100000 in
theorem e60_0 (n : Nat) (v : ((Int × Int × Int) × (Int × Int × Int) × Int) × Bool) : ev Tryz.prog E (oracle k60_0) Tryz.f60.ntmps (fun x => mem x []) (L60_0 n) (finF Tryz.prog E Tryz.f60.results.toList [[(.ptr 0 0 49 [.keep])]] w60_0.alts) 4000 [.code (Tryz.f60.body.getD .skip)] (argSt (v60_0.enc v)) = F60_0 v := by kernel_rfl
theorem ok60_0 : FnOk Tryz.prog E 60 v60_0.enc F60_0 w60_0.enc :=
  fn_known (fn := Tryz.f60) (c := (Tryz.f60.body.getD .skip)) Tryz.func60 (by kernel_rfl) rfl envOk (oracle_ok k60_0) mixed v60_0 F60_0 w60_0 [(.ptr 0 0 49 [.keep])] [[(.ptr 0 0 49 [.keep])]] (by kernel_rfl) [] 4000 L60_0 (by kernel_rfl)
    (fun _ h => nomatch h) (fun v _ h => ⟨0, (e60_0 _ v).trans h⟩) (fun _ => by kernel_rfl) (fun _ => by kernel_rfl) (fun _ _ => by kernel_rfl)
/- chicane/chicaneref02.Clamp -/
abbrev A91_0 : Type := Int × Int × Int
abbrev R91_0 : Type := Int
def v91_0 : Pk G (Int × Int × Int) := (Pk.fst (pk (Sh.cons (Sh.int .i64) (Sh.cons (Sh.int .i64) (Sh.fst (Sh.cons (Sh.int .i64) Sh.nil)))) Sh.hnil))
def w91_0 : Wk G Int := (Wk.one [.keep] (Pk.fst (pk (Sh.fst (Sh.cons (Sh.int .i64) Sh.nil)) Sh.hnil)))
def F91_0 (v : Int × Int × Int) : Option Int :=
  bif (decide (v.1 < v.2.1)) then
    some (v.2.1)
  else
    bif (decide (v.1 > v.2.2)) then
      some (v.2.2)
    else
      some (v.1)

noncomputable def k91_0 : List (Known Tryz.prog E) := []
noncomputable def L91_0 (n id : Nat) (st : St G) : Option Int := none
set_option maxRecDepth 100000 in
theorem e91_0 (n : Nat) (v : Int × Int × Int) : ev Tryz.prog E (oracle k91_0) Tryz.f91.ntmps (fun x => mem x []) (L91_0 n) (finF Tryz.prog E Tryz.f91.results.toList [[]] w91_0.alts) 4000 [.code (Tryz.f91.body.getD .skip)] (argSt (v91_0.enc v)) = F91_0 v := by kernel_rfl
theorem ok91_0 : FnOk Tryz.prog E 91 v91_0.enc F91_0 w91_0.enc :=
  fn_known (fn := Tryz.f91) (c := (Tryz.f91.body.getD .skip)) Tryz.func91 (by kernel_rfl) rfl envOk (oracle_ok k91_0) mixed v91_0 F91_0 w91_0 [] [[]] (by kernel_rfl) [] 4000 L91_0 (by kernel_rfl)
    (fun _ h => nomatch h) (fun v _ h => ⟨0, (e91_0 _ v).trans h⟩) (fun _ => by kernel_rfl) (fun _ => by kernel_rfl) (fun _ _ => by kernel_rfl)
/- chicane/chicaneref12.axis -/
abbrev A83_0 : Type := Int × Int × Int × Int
abbrev R83_0 : Type := Int × Int
def v83_0 : Pk G (Int × Int × Int × Int) := (Pk.fst (pk (Sh.cons (Sh.int .i64) (Sh.cons (Sh.int .i64) (Sh.cons (Sh.int .i64) (Sh.fst (Sh.cons (Sh.int .i64) Sh.nil))))) Sh.hnil))
def w83_0 : Wk G (Int × Int) := (Wk.one [.keep, .keep] (Pk.fst (pk (Sh.cons (Sh.int .i64) (Sh.fst (Sh.cons (Sh.int .i64) Sh.nil))) Sh.hnil)))
def c83_0_3 : Pk G (Int × Int × Int × Int) := (Pk.fst (pk (Sh.cons (Sh.int .i64) (Sh.cons (Sh.int .i64) (Sh.cons (Sh.int .i64) (Sh.fst (Sh.cons (Sh.int .i64) Sh.nil))))) Sh.hnil))
def B83_0_3 (K : ((Int × Int × Int × Int) → Option (Int × Int))) (v : Int × Int × Int × Int) : Option (Int × Int) :=
  let x2281 : Int := (IntKind.wrap .i64 (v.2.2.2 + (1 : Int)))
  bif (decide (x2281 < v.2.1)) then
    bif (decide (v.2.2.1 ≥ v.1)) then
      let x2282 : Int := (IntKind.wrap .i64 (v.2.2.1 - v.1))
      let x2283 : Int := (IntKind.wrap .i64 (v.2.2.2 + (1 : Int)))
      K (v.1, (v.2.1, (x2282, x2283)))
    else
      some (v.2.2.2, v.2.2.1)
  else
    some (v.2.2.2, v.2.2.1)

def E83_0 (K : ((Int × Int × Int × Int) → Option (Int × Int))) (v : Int × Int × Int × Int) : Option (Int × Int) :=
  (F91_0 (v.1, ((-281474976710656 : Int), (281474976710656 : Int)))).bind fun r2279 =>
  let x2280 : Int := (IntKind.wrap .i64 (r2279 - v.2.1))
  K (v.2.2.1, (v.2.2.2, (x2280, (0 : Int))))

def K83_0 : Nat → ((Int × Int × Int × Int) → Option (Int × Int))
  | 0 => (fun _ => none)
  | n + 1 => (B83_0_3 (K83_0 n))
def fuel83_0 (v : Int × Int × Int × Int) : Nat := 1000
def F83_0 (v : Int × Int × Int × Int) : Option (Int × Int) := E83_0 (K83_0 (fuel83_0 v)) v
noncomputable def k83_0 : List (Known Tryz.prog E) := [Known.of envOk [1, 1, 1] [.keep, .keep, .keep] v91_0 F91_0 w91_0 ok91_0]
def s83_0_3 : List (Nat × Pat) := [(2, .keep), (3, .keep), (10, .keep), (11, .keep)]
noncomputable def L83_0 (n id : Nat) (st : St G) : Option (Int × Int) := match Nat.beq id 3 with | true => cutK Tryz.prog s83_0_3 [] c83_0_3.dec (K83_0 n) st | false => none
set_option maxRecDepth 100000 in
theorem e83_0 (n : Nat) (v : Int × Int × Int × Int) : ev Tryz.prog E (oracle k83_0) Tryz.f83.ntmps (fun x => mem x [3]) (L83_0 n) (finF Tryz.prog E Tryz.f83.results.toList [[]] w83_0.alts) 4000 [.code (Tryz.f83.body.getD .skip)] (argSt (v83_0.enc v)) = E83_0 (K83_0 n) v := by kernel_rfl
set_option maxRecDepth 100000 in
theorem b83_0_3 (n : Nat) (v : Int × Int × Int × Int) : evCut Tryz.prog E (oracle k83_0) false 83 Tryz.f83.ntmps (fun x => mem x [3]) (L83_0 n) (finF Tryz.prog E Tryz.f83.results.toList [[]] w83_0.alts) 4000 (todoAt (Tryz.f83.body.getD .skip) 3) (cutSt s83_0_3 (c83_0_3.enc v)) = B83_0_3 (K83_0 n) v := by kernel_rfl
theorem ok83_0 : FnOk Tryz.prog E 83 v83_0.enc F83_0 w83_0.enc :=
  fn_known (fn := Tryz.f83) (c := (Tryz.f83.body.getD .skip)) Tryz.func83 (by kernel_rfl) rfl envOk (oracle_ok k83_0) mixed v83_0 F83_0 w83_0 [] [[]] (by kernel_rfl) [3] 4000 L83_0 (by kernel_rfl)
    (List.forall_mem_cons.2 ⟨⟨_, [], s83_0_3, c83_0_3.dec, c83_0_3.enc, fun n => (K83_0 n), c83_0_3.ok, fun _ _ => rfl, fun _ => rfl, by kernel_rfl, fun n v _ h => (b83_0_3 n v).trans h⟩, fun _ h => (nomatch h)⟩) (fun v _ h => ⟨fuel83_0 v, (e83_0 _ v).trans h⟩) (fun _ => by kernel_rfl) (fun _ => by kernel_rfl) (fun _ _ => by kernel_rfl)
/- chicane/chicaneref12.Where -/
abbrev A61_0 : Type := (Int × Int × Int × Int × Int × Int × List Int × List Int × (List (Int × Int × Bool)) × (List (Int × Int)) × (List (List (Int × Int))) × (List (Int × Int × Int × Int × Bool)) × Int × Int × Int × Int) × Int × Int
abbrev R61_0 : Type := Int × Int × Int × Int
def v61_0 : Pk G ((Int × Int × Int × Int × Int × Int × List Int × List Int × (List (Int × Int × Bool)) × (List (Int × Int)) × (List (List (Int × Int))) × (List (Int × Int × Int × Int × Bool)) × Int × Int × Int × Int) × Int × Int) := (Pk.fst (pk (Sh.cons (Sh.agg (Sh.cons (Sh.int .i64) (Sh.cons (Sh.int .i64) (Sh.cons (Sh.int .i64) (Sh.cons (Sh.int .i64) (Sh.cons (Sh.int .i64) (Sh.cons (Sh.int .i64) (Sh.cons (Sh.ros 22) (Sh.cons (Sh.ros 3) (Sh.cons (Sh.ros 64) (Sh.cons (Sh.ros 24) (Sh.cons (Sh.ros 28) (Sh.cons (Sh.ros 187) (Sh.cons (Sh.int .i64) (Sh.cons (Sh.int .i64) (Sh.cons (Sh.int .u32) (Sh.fst (Sh.cons (Sh.int .i64) Sh.nil)))))))))))))))))) (Sh.cons (Sh.int .i64) (Sh.fst (Sh.cons (Sh.int .i64) Sh.nil)))) Sh.hnil))
def w61_0 : Wk G (Int × Int × Int × Int) := (Wk.one [.keep, .keep, .keep, .keep] (Pk.fst (pk (Sh.cons (Sh.int .i64) (Sh.cons (Sh.int .i64) (Sh.cons (Sh.int .i64) (Sh.fst (Sh.cons (Sh.int .i64) Sh.nil))))) Sh.hnil)))
def F61_0 (v : (Int × Int × Int × Int × Int × Int × List Int × List Int × (List (Int × Int × Bool)) × (List (Int × Int)) × (List (List (Int × Int))) × (List (Int × Int × Int × Int × Bool)) × Int × Int × Int × Int) × Int × Int) : Option (Int × Int × Int × Int) :=
  (F83_0 (v.2.1, (v.1.2.2.2.2.1, (v.1.2.1, v.1.2.2.1)))).bind fun r2288 =>
  (F83_0 (v.2.2, (v.1.2.2.2.2.2.1, (v.1.2.1, v.1.2.2.2.1)))).bind fun r2289 =>
  some (r2288.1, (r2289.1, (r2288.2, r2289.2)))

noncomputable def k61_0 : List (Known Tryz.prog E) := [Known.of envOk [1, 1, 1, 1] [.keep, .keep, .keep, .keep] v83_0 F83_0 w83_0 ok83_0]
noncomputable def L61_0 (n id : Nat) (st : St G) : Option (Int × Int × Int × Int) := none
set_option maxRecDepth 100000 in
theorem e61_0 (n : Nat) (v : (Int × Int × Int × Int × Int × Int × List Int × List Int × (List (Int × Int × Bool)) × (List (Int × Int)) × (List (List (Int × Int))) × (List (Int × Int × Int × Int × Bool)) × Int × Int × Int × Int) × Int × Int) : ev Tryz.prog E (oracle k61_0) Tryz.f61.ntmps (fun x => mem x []) (L61_0 n) (finF Tryz.prog E Tryz.f61.results.toList [[]] w61_0.alts) 4000 [.code (Tryz.f61.body.getD .skip)] (argSt (v61_0.enc v)) = F61_0 v := by kernel_rfl
theorem ok61_0 : FnOk Tryz.prog E 61 v61_0.enc F61_0 w61_0.enc :=
  fn_known (fn := Tryz.f61) (c := (Tryz.f61.body.getD .skip)) Tryz.func61 (by kernel_rfl) rfl envOk (oracle_ok k61_0) mixed v61_0 F61_0 w61_0 [] [[]] (by kernel_rfl) [] 4000 L61_0 (by kernel_rfl)
    (fun _ h => nomatch h) (fun v _ h => ⟨0, (e61_0 _ v).trans h⟩) (fun _ => by kernel_rfl) (fun _ => by kernel_rfl) (fun _ _ => by kernel_rfl)
/- chicane/chicaneref13.meet -/
abbrev A27_0 : Type := ((Int × Int × Int × Int × Int × Int × List Int × List Int × (List (Int × Int × Bool)) × (List (Int × Int)) × (List (List (Int × Int))) × (List (Int × Int × Int × Int × Bool)) × Int × Int × Int × Int) × Int × Int × Bool × (Int × Int × Int) × (Int × Int × Int) × Int) × Bool
abbrev R27_0 : Type := (Int × Bool) × Bool
def v27_0 : Pk G (((Int × Int × Int × Int × Int × Int × List Int × List Int × (List (Int × Int × Bool)) × (List (Int × Int)) × (List (List (Int × Int))) × (List (Int × Int × Int × Int × Bool)) × Int × Int × Int × Int) × Int × Int × Bool × (Int × Int × Int) × (Int × Int × Int) × Int) × Bool) := (pk (Sh.snd (Sh.cons (Sh.ptr 0 0) (Sh.cons (Sh.agg (Sh.cons (Sh.int .i64) (Sh.cons (Sh.int .i64) (Sh.cons (Sh.int .i64) (Sh.cons (Sh.int .i64) (Sh.cons (Sh.int .i64) (Sh.cons (Sh.int .i64) (Sh.cons (Sh.ros 22) (Sh.cons (Sh.ros 3) (Sh.cons (Sh.ros 64) (Sh.cons (Sh.ros 24) (Sh.cons (Sh.ros 28) (Sh.cons (Sh.ros 187) (Sh.cons (Sh.int .i64) (Sh.cons (Sh.int .i64) (Sh.cons (Sh.int .u32) (Sh.fst (Sh.cons (Sh.int .i64) Sh.nil)))))))))))))))))) (Sh.cons (Sh.int .i64) (Sh.cons (Sh.int .i64) (Sh.cons Sh.bool (Sh.cons (Sh.agg (Sh.cons (Sh.int .i64) (Sh.cons (Sh.int .i64) (Sh.fst (Sh.cons (Sh.int .i64) Sh.nil))))) (Sh.cons (Sh.agg (Sh.cons (Sh.int .i64) (Sh.cons (Sh.int .i64) (Sh.fst (Sh.cons (Sh.int .i64) Sh.nil))))) (Sh.fst (Sh.cons (Sh.int .i64) Sh.nil)))))))))) (Sh.fst (Sh.hfix 0 49 (Sh.fst (Sh.cons Sh.bool Sh.nil)) Sh.hnil)))
def w27_0 : Wk G ((Int × Bool) × Bool) := (Wk.one [.keep, .keep] (pk (Sh.cons (Sh.int .i64) (Sh.fst (Sh.cons Sh.bool Sh.nil))) (Sh.fst (Sh.hfix 0 49 (Sh.fst (Sh.cons Sh.bool Sh.nil)) Sh.hnil))))
def F27_0 (v : ((Int × Int × Int × Int × Int × Int × List Int × List Int × (List (Int × Int × Bool)) × (List (Int × Int)) × (List (List (Int × Int))) × (List (Int × Int × Int × Int × Bool)) × Int × Int × Int × Int) × Int × Int × Bool × (Int × Int × Int) × (Int × Int × Int) × Int) × Bool) : Option ((Int × Bool) × Bool) :=
  (F28_0 ((v.1.1, (v.1.2.1, (v.1.2.2.1, v.1.2.2.2.1))), v.2)).bind fun r2316 =>
  (F55_0 ((r2316.1.1, v.1.2.2.2.2.2.1.1), r2316.2)).bind fun r2317 =>
  (F54_0 ((v.1.2.2.2.2.2.1.2.2, r2317.1), r2317.2)).bind fun r2318 =>
  (F55_0 ((r2316.1.2, v.1.2.2.2.2.2.1.2.1), r2318.2)).bind fun r2319 =>
  (F54_0 ((r2318.1, r2319.1), r2319.2)).bind fun r2320 =>
  let x2321 : Int := (IntKind.wrap .i64 (v.1.2.2.2.2.1.1 - v.1.1.2.2.2.2.1))
  let x2322 : Int := (IntKind.wrap .i64 (v.1.2.1 * v.1.1.2.1))
  let x2323 : Int := (IntKind.wrap .i64 (x2321 - x2322))
  let x2324 : Int := (IntKind.wrap .i64 (v.1.2.2.2.2.1.2.1 - v.1.1.2.2.2.2.2.1))
  let x2325 : Int := (IntKind.wrap .i64 (v.1.2.2.1 * v.1.1.2.1))
  let x2326 : Int := (IntKind.wrap .i64 (x2324 - x2325))
  (F57_0 (v.1.1, (v.1.2.1, v.1.2.2.1))).bind fun r2327 =>
  (F55_0 ((r2316.1.1, x2323), r2320.2)).bind fun r2328 =>
  (F56_0 ((r2327, r2328.1), r2328.2)).bind fun r2329 =>
  (F55_0 ((r2316.1.2, x2326), r2329.2)).bind fun r2330 =>
  (F56_0 ((r2329.1, r2330.1), r2330.2)).bind fun r2331 =>
  (F54_0 ((v.1.2.2.2.2.1.2.2, r2331.1), r2331.2)).bind fun r2332 =>
  bif (decide (r2320.1 ≥ (0 : Int))) then
    some (((0 : Int), false), r2332.2)
  else
    bif (decide (r2332.1 > (0 : Int))) then
      (F59_0 (r2320.1, r2332.2)).bind fun r2333 =>
      (F58_0 ((r2332.1, r2333.1), r2333.2)).bind fun r2334 =>
      bif (decide (r2334.1 > v.1.2.2.2.2.2.2)) then
        some (((0 : Int), false), r2334.2)
      else
        (F60_0 ((v.1.2.2.2.2.1, (v.1.2.2.2.2.2.1, r2334.1)), r2334.2)).bind fun r2335 =>
        (F61_0 (v.1.1, (r2335.1.1, r2335.1.2.1))).bind fun r2336 =>
        bif (r2336.1 == v.1.2.1) then
          bif (r2336.2.1 == v.1.2.2.1) then
            some ((r2334.1, ((decide (r2336.2.2.1 < r2336.2.2.2)) == v.1.2.2.2.1)), r2335.2)
          else
            some ((r2334.1, false), r2335.2)
        else
          some ((r2334.1, false), r2335.2)
    else
      bif (decide ((0 : Int) > v.1.2.2.2.2.2.2)) then
        some (((0 : Int), false), r2332.2)
      else
        (F60_0 ((v.1.2.2.2.2.1, (v.1.2.2.2.2.2.1, (0 : Int))), r2332.2)).bind fun r2337 =>
        (F61_0 (v.1.1, (r2337.1.1, r2337.1.2.1))).bind fun r2338 =>
        bif (r2338.1 == v.1.2.1) then
          bif (r2338.2.1 == v.1.2.2.1) then
            some (((0 : Int), ((decide (r2338.2.2.1 < r2338.2.2.2)) == v.1.2.2.2.1)), r2337.2)
          else
            some (((0 : Int), false), r2337.2)
        else
          some (((0 : Int), false), r2337.2)

noncomputable def k27_0 : List (Known Tryz.prog E) := [Known.of envOk [5, 9, 1, 1, 2] [(.ptr 0 0 49 [.keep]), (.agg [.keep, .keep, .keep, .keep, .keep, .keep, (.ros 22), (.ros 3), (.ros 64), (.ros 24), (.ros 28), (.ros 187), .keep, .keep, .keep, .keep]), .keep, .keep, .keep] v28_0 F28_0 w28_0 ok28_0, Known.of envOk [5, 1, 1] [(.ptr 0 0 49 [.keep]), .keep, .keep] v55_0 F55_0 w55_0 ok55_0, Known.of envOk [5, 1, 1] [(.ptr 0 0 49 [.keep]), .keep, .keep] v54_0 F54_0 w54_0 ok54_0, Known.of envOk [9, 1, 1] [(.agg [.keep, .keep, .keep, .keep, .keep, .keep, (.ros 22), (.ros 3), (.ros 64), (.ros 24), (.ros 28), (.ros 187), .keep, .keep, .keep, .keep]), .keep, .keep] v57_0 F57_0 w57_0 ok57_0, Known.of envOk [5, 1, 1] [(.ptr 0 0 49 [.keep]), .keep, .keep] v56_0 F56_0 w56_0 ok56_0, Known.of envOk [5, 1] [(.ptr 0 0 49 [.keep]), .keep] v59_0 F59_0 w59_0 ok59_0, Known.of envOk [5, 1, 1] [(.ptr 0 0 49 [.keep]), .keep, .keep] v58_0 F58_0 w58_0 ok58_0, Known.of envOk [5, 9, 9, 1] [(.ptr 0 0 49 [.keep]), (.agg [.keep, .keep, .keep]), (.agg [.keep, .keep, .keep]), .keep] v60_0 F60_0 w60_0 ok60_0, Known.of envOk [9, 1, 1] [(.agg [.keep, .keep, .keep, .keep, .keep, .keep, (.ros 22), (.ros 3), (.ros 64), (.ros 24), (.ros 28), (.ros 187), .keep, .keep, .keep, .keep]), .keep, .keep] v61_0 F61_0 w61_0 ok61_0]
noncomputable def L27_0 (n id : Nat) (st : St G) : Option ((Int × Bool) × Bool) := none
set_option maxRecDepth 100000 in
theorem e27_0 (n : Nat) (v : ((Int × Int × Int × Int × Int × Int × List Int × List Int × (List (Int × Int × Bool)) × (List (Int × Int)) × (List (List (Int × Int))) × (List (Int × Int × Int × Int × Bool)) × Int × Int × Int × Int) × Int × Int × Bool × (Int × Int × Int) × (Int × Int × Int) × Int) × Bool) : ev Tryz.prog E (oracle k27_0) Tryz.f27.ntmps (fun x => mem x []) (L27_0 n) (finF Tryz.prog E Tryz.f27.results.toList [[(.ptr 0 0 49 [.keep])]] w27_0.alts) 4000 [.code (Tryz.f27.body.getD .skip)] (argSt (v27_0.enc v)) = F27_0 v := by kernel_rfl
theorem ok27_0 : FnOk Tryz.prog E 27 v27_0.enc F27_0 w27_0.enc :=
  fn_known (fn := Tryz.f27) (c := (Tryz.f27.body.getD .skip)) Tryz.func27 (by kernel_rfl) rfl envOk (oracle_ok k27_0) mixed v27_0 F27_0 w27_0 [(.ptr 0 0 49 [.keep])] [[(.ptr 0 0 49 [.keep])]] (by kernel_rfl) [] 4000 L27_0 (by kernel_rfl)
    (fun _ h => nomatch h) (fun v _ h => ⟨0, (e27_0 _ v).trans h⟩) (fun _ => by kernel_rfl) (fun _ => by kernel_rfl) (fun _ _ => by kernel_rfl)
/- chicane/chicaneref01.low -/
abbrev A107_0 : Type := Int
abbrev R107_0 : Type := Int
def v107_0 : Pk G Int := (Pk.fst (pk (Sh.fst (Sh.cons (Sh.int .u64) Sh.nil)) Sh.hnil))
def w107_0 : Wk G Int := (Wk.one [.keep] (Pk.fst (pk (Sh.fst (Sh.cons (Sh.int .u64) Sh.nil)) Sh.hnil)))
def F107_0 (v : Int) : Option Int :=
  let x2348 : Int := (Int.tmod v (4294967296 : Int))
  some (x2348)

noncomputable def k107_0 : List (Known Tryz.prog E) := []
noncomputable def L107_0 (n id : Nat) (st : St G) : Option Int := none
set_option maxRecDepth 100000 in
theorem e107_0 (n : Nat) (v : Int) : ev Tryz.prog E (oracle k107_0) Tryz.f107.ntmps (fun x => mem x []) (L107_0 n) (finF Tryz.prog E Tryz.f107.results.toList [[]] w107_0.alts) 4000 [.code (Tryz.f107.body.getD .skip)] (argSt (v107_0.enc v)) = F107_0 v := by kernel_rfl
theorem ok107_0 : FnOk Tryz.prog E 107 v107_0.enc F107_0 w107_0.enc :=
  fn_known (fn := Tryz.f107) (c := (Tryz.f107.body.getD .skip)) Tryz.func107 (by kernel_rfl) rfl envOk (oracle_ok k107_0) mixed v107_0 F107_0 w107_0 [] [[]] (by kernel_rfl) [] 4000 L107_0 (by kernel_rfl)
    (fun _ h => nomatch h) (fun v _ h => ⟨0, (e107_0 _ v).trans h⟩) (fun _ => by kernel_rfl) (fun _ => by kernel_rfl) (fun _ _ => by kernel_rfl)
/- chicane/chicaneref01.Zero -/
abbrev A105_0 : Type := Bool × Int × Int × Int × Int
abbrev R105_0 : Type := Bool
def v105_0 : Pk G (Bool × Int × Int × Int × Int) := (Pk.fst (pk (Sh.fst (Sh.cons (Sh.agg (Sh.cons Sh.bool (Sh.cons (Sh.int .u64) (Sh.cons (Sh.int .u64) (Sh.cons (Sh.int .u64) (Sh.fst (Sh.cons (Sh.int .u64) Sh.nil))))))) Sh.nil)) Sh.hnil))
def w105_0 : Wk G Bool := (Wk.one [.keep] (Pk.fst (pk (Sh.fst (Sh.cons Sh.bool Sh.nil)) Sh.hnil)))
def F105_0 (v : Bool × Int × Int × Int × Int) : Option Bool :=
  bif (v.2.1 == (0 : Int)) then
    bif (v.2.2.1 == (0 : Int)) then
      bif (v.2.2.2.1 == (0 : Int)) then
        some (v.2.2.2.2 == (0 : Int))
      else
        some (false)
    else
      some (false)
  else
    some (false)

noncomputable def k105_0 : List (Known Tryz.prog E) := []
noncomputable def L105_0 (n id : Nat) (st : St G) : Option Bool := none
set_option maxRecDepth 100000 in
theorem e105_0 (n : Nat) (v : Bool × Int × Int × Int × Int) : ev Tryz.prog E (oracle k105_0) Tryz.f105.ntmps (fun x => mem x []) (L105_0 n) (finF Tryz.prog E Tryz.f105.results.toList [[]] w105_0.alts) 4000 [.code (Tryz.f105.body.getD .skip)] (argSt (v105_0.enc v)) = F105_0 v := by kernel_rfl
theorem ok105_0 : FnOk Tryz.prog E 105 v105_0.enc F105_0 w105_0.enc :=
  fn_known (fn := Tryz.f105) (c := (Tryz.f105.body.getD .skip)) Tryz.func105 (by kernel_rfl) rfl envOk (oracle_ok k105_0) mixed v105_0 F105_0 w105_0 [] [[]] (by kernel_rfl) [] 4000 L105_0 (by kernel_rfl)
    (fun _ h => nomatch h) (fun v _ h => ⟨0, (e105_0 _ v).trans h⟩) (fun _ => by kernel_rfl) (fun _ => by kernel_rfl) (fun _ _ => by kernel_rfl)
/- chicane/chicaneref01.Mul -/
abbrev A99_0 : Type := Int × Int
abbrev R99_0 : Type := Bool × Int × Int × Int × Int
def v99_0 : Pk G (Int × Int) := (Pk.fst (pk (Sh.cons (Sh.int .i64) (Sh.fst (Sh.cons (Sh.int .i64) Sh.nil))) Sh.hnil))
def w99_0 : Wk G (Bool × Int × Int × Int × Int) := (Wk.one [(.agg [.keep, .keep, .keep, .keep, .keep])] (Pk.fst (pk (Sh.fst (Sh.cons (Sh.agg (Sh.cons Sh.bool (Sh.cons (Sh.int .u64) (Sh.cons (Sh.int .u64) (Sh.cons (Sh.int .u64) (Sh.fst (Sh.cons (Sh.int .u64) Sh.nil))))))) Sh.nil)) Sh.hnil)))
def c99_0_7 : Pk G (Int × (Bool × Int × Int × Int × Int) × (Int × Int) × (Int × Int) × Bool × Int × Int × Int × Int) := (pk (Sh.snd (Sh.cons (Sh.ptr 0 0) (Sh.snd (Sh.cons (Sh.ptr 1 0) (Sh.snd (Sh.cons (Sh.ptr 2 0) (Sh.snd (Sh.cons (Sh.ptr 3 0) (Sh.fst (Sh.cons (Sh.int .i64) Sh.nil)))))))))) (Sh.hfix 3 154 (Sh.cons Sh.bool (Sh.cons (Sh.int .u64) (Sh.cons (Sh.int .u64) (Sh.cons (Sh.int .u64) (Sh.fst (Sh.cons (Sh.int .u64) Sh.nil)))))) (Sh.hfix 2 168 (Sh.cons (Sh.int .u64) (Sh.fst (Sh.cons (Sh.int .u64) Sh.nil))) (Sh.hfix 1 168 (Sh.cons (Sh.int .u64) (Sh.fst (Sh.cons (Sh.int .u64) Sh.nil))) (Sh.fst (Sh.hfix 0 154 (Sh.cons Sh.bool (Sh.cons (Sh.int .u64) (Sh.cons (Sh.int .u64) (Sh.cons (Sh.int .u64) (Sh.fst (Sh.cons (Sh.int .u64) Sh.nil)))))) Sh.hnil))))))
def c99_0_10 : Pk G ((Int × Int) × (Bool × Int × Int × Int × Int) × (Int × Int) × (Int × Int) × Bool × Int × Int × Int × Int) := (pk (Sh.snd (Sh.cons (Sh.ptr 0 0) (Sh.snd (Sh.cons (Sh.ptr 1 0) (Sh.snd (Sh.cons (Sh.ptr 2 0) (Sh.snd (Sh.cons (Sh.ptr 3 0) (Sh.cons (Sh.int .i64) (Sh.fst (Sh.cons (Sh.int .i64) Sh.nil))))))))))) (Sh.hfix 3 154 (Sh.cons Sh.bool (Sh.cons (Sh.int .u64) (Sh.cons (Sh.int .u64) (Sh.cons (Sh.int .u64) (Sh.fst (Sh.cons (Sh.int .u64) Sh.nil)))))) (Sh.hfix 2 168 (Sh.cons (Sh.int .u64) (Sh.fst (Sh.cons (Sh.int .u64) Sh.nil))) (Sh.hfix 1 168 (Sh.cons (Sh.int .u64) (Sh.fst (Sh.cons (Sh.int .u64) Sh.nil))) (Sh.fst (Sh.hfix 0 154 (Sh.cons Sh.bool (Sh.cons (Sh.int .u64) (Sh.cons (Sh.int .u64) (Sh.cons (Sh.int .u64) (Sh.fst (Sh.cons (Sh.int .u64) Sh.nil)))))) Sh.hnil))))))
def c99_0_15 : Pk G ((Int × Int × Int × Int) × (Bool × Int × Int × Int × Int) × (Int × Int) × (Int × Int) × Bool × Int × Int × Int × Int) := (pk (Sh.snd (Sh.cons (Sh.ptr 0 0) (Sh.snd (Sh.cons (Sh.ptr 1 0) (Sh.snd (Sh.cons (Sh.ptr 2 0) (Sh.snd (Sh.cons (Sh.ptr 3 0) (Sh.cons (Sh.int .i64) (Sh.cons (Sh.int .i64) (Sh.cons (Sh.int .u64) (Sh.fst (Sh.cons (Sh.int .i64) Sh.nil))))))))))))) (Sh.hfix 3 154 (Sh.cons Sh.bool (Sh.cons (Sh.int .u64) (Sh.cons (Sh.int .u64) (Sh.cons (Sh.int .u64) (Sh.fst (Sh.cons (Sh.int .u64) Sh.nil)))))) (Sh.hfix 2 168 (Sh.cons (Sh.int .u64) (Sh.fst (Sh.cons (Sh.int .u64) Sh.nil))) (Sh.hfix 1 168 (Sh.cons (Sh.int .u64) (Sh.fst (Sh.cons (Sh.int .u64) Sh.nil))) (Sh.fst (Sh.hfix 0 154 (Sh.cons Sh.bool (Sh.cons (Sh.int .u64) (Sh.cons (Sh.int .u64) (Sh.cons (Sh.int .u64) (Sh.fst (Sh.cons (Sh.int .u64) Sh.nil)))))) Sh.hnil))))))
def B99_0_7 (K : ((Int × (Bool × Int × Int × Int × Int) × (Int × Int) × (Int × Int) × Bool × Int × Int × Int × Int) → Option (Bool × Int × Int × Int × Int)) × (((Int × Int) × (Bool × Int × Int × Int × Int) × (Int × Int) × (Int × Int) × Bool × Int × Int × Int × Int) → Option (Bool × Int × Int × Int × Int)) × (((Int × Int × Int × Int) × (Bool × Int × Int × Int × Int) × (Int × Int) × (Int × Int) × Bool × Int × Int × Int × Int) → Option (Bool × Int × Int × Int × Int))) (v : Int × (Bool × Int × Int × Int × Int) × (Int × Int) × (Int × Int) × Bool × Int × Int × Int × Int) : Option (Bool × Int × Int × Int × Int) :=
  bif (decide (v.1 < (2 : Int))) then
    K.2.1 ((v.1, (0 : Int)), v.2)
  else
    (F105_0 v.2.1).bind fun r2441 =>
    bif r2441 then
      some (false, v.2.1.2)
    else
      some (v.2.1)

def B99_0_10 (K : ((Int × (Bool × Int × Int × Int × Int) × (Int × Int) × (Int × Int) × Bool × Int × Int × Int × Int) → Option (Bool × Int × Int × Int × Int)) × (((Int × Int) × (Bool × Int × Int × Int × Int) × (Int × Int) × (Int × Int) × Bool × Int × Int × Int × Int) → Option (Bool × Int × Int × Int × Int)) × (((Int × Int × Int × Int) × (Bool × Int × Int × Int × Int) × (Int × Int) × (Int × Int) × Bool × Int × Int × Int × Int) → Option (Bool × Int × Int × Int × Int))) (v : (Int × Int) × (Bool × Int × Int × Int × Int) × (Int × Int) × (Int × Int) × Bool × Int × Int × Int × Int) : Option (Bool × Int × Int × Int × Int) :=
  bif (decide (v.1.2 < (2 : Int))) then
    (idx v.1.1 2).bind fun (x2442 : Nat) =>
    (idx v.1.2 2).bind fun (x2443 : Nat) =>
    let x2444 : Int := (IntKind.wrap .u64 ((List.getD [v.2.2.2.1.1, v.2.2.2.1.2] x2442 0) * (List.getD [v.2.2.1.1, v.2.2.1.2] x2443 0)))
    let x2445 : Int := (IntKind.wrap .i64 (v.1.1 + v.1.2))
    K.2.2 ((v.1.1, (v.1.2, (x2444, x2445))), v.2)
  else
    let x2446 : Int := (IntKind.wrap .i64 (v.1.1 + (1 : Int)))
    K.1 (x2446, v.2)

def B99_0_15 (K : ((Int × (Bool × Int × Int × Int × Int) × (Int × Int) × (Int × Int) × Bool × Int × Int × Int × Int) → Option (Bool × Int × Int × Int × Int)) × (((Int × Int) × (Bool × Int × Int × Int × Int) × (Int × Int) × (Int × Int) × Bool × Int × Int × Int × Int) → Option (Bool × Int × Int × Int × Int)) × (((Int × Int × Int × Int) × (Bool × Int × Int × Int × Int) × (Int × Int) × (Int × Int) × Bool × Int × Int × Int × Int) → Option (Bool × Int × Int × Int × Int))) (v : (Int × Int × Int × Int) × (Bool × Int × Int × Int × Int) × (Int × Int) × (Int × Int) × Bool × Int × Int × Int × Int) : Option (Bool × Int × Int × Int × Int) :=
  bif (decide (v.1.2.2.2 < (4 : Int))) then
    bif (decide (v.1.2.2.1 > (0 : Int))) then
      (idx v.1.2.2.2 4).bind fun (x2447 : Nat) =>
      (F107_0 v.1.2.2.1).bind fun r2448 =>
      let x2449 : Int := (IntKind.wrap .u64 ((List.getD [v.2.1.2.1, v.2.1.2.2.1, v.2.1.2.2.2.1, v.2.1.2.2.2.2] x2447 0) + r2448))
      (F107_0 x2449).bind fun r2450 =>
      (idx v.1.2.2.2 4).bind fun (x2451 : Nat) =>
      let x2452 : Int := (IntKind.wrap .u64 (Int.tdiv v.1.2.2.1 (4294967296 : Int)))
      let x2453 : Int := (IntKind.wrap .u64 (Int.tdiv x2449 (4294967296 : Int)))
      let x2454 : Int := (IntKind.wrap .u64 (x2452 + x2453))
      let x2455 : Int := (IntKind.wrap .i64 (v.1.2.2.2 + (1 : Int)))
      K.2.2 ((v.1.1, (v.1.2.1, (x2454, x2455))), ((v.2.1.1, ((if x2451 = 0 then r2450 else v.2.1.2.1), ((if x2451 = 1 then r2450 else v.2.1.2.2.1), ((if x2451 = 2 then r2450 else v.2.1.2.2.2.1), (if x2451 = 3 then r2450 else v.2.1.2.2.2.2))))), v.2.2))
    else
      let x2456 : Int := (IntKind.wrap .i64 (v.1.2.1 + (1 : Int)))
      K.2.1 ((v.1.1, x2456), v.2)
  else
    let x2457 : Int := (IntKind.wrap .i64 (v.1.2.1 + (1 : Int)))
    K.2.1 ((v.1.1, x2457), v.2)

def E99_0 (K : ((Int × (Bool × Int × Int × Int × Int) × (Int × Int) × (Int × Int) × Bool × Int × Int × Int × Int) → Option (Bool × Int × Int × Int × Int)) × (((Int × Int) × (Bool × Int × Int × Int × Int) × (Int × Int) × (Int × Int) × Bool × Int × Int × Int × Int) → Option (Bool × Int × Int × Int × Int)) × (((Int × Int × Int × Int) × (Bool × Int × Int × Int × Int) × (Int × Int) × (Int × Int) × Bool × Int × Int × Int × Int) → Option (Bool × Int × Int × Int × Int))) (v : Int × Int) : Option (Bool × Int × Int × Int × Int) :=
  (F78_0 v.1).bind fun r2435 =>
  (F78_0 v.2).bind fun r2436 =>
  (F107_0 r2435).bind fun r2437 =>
  let x2438 : Int := (IntKind.wrap .u64 (Int.tdiv r2435 (4294967296 : Int)))
  (F107_0 r2436).bind fun r2439 =>
  let x2440 : Int := (IntKind.wrap .u64 (Int.tdiv r2436 (4294967296 : Int)))
  K.1 ((0 : Int), (((!((decide (v.1 < (0 : Int))) == (decide (v.2 < (0 : Int))))), ((0 : Int), ((0 : Int), ((0 : Int), (0 : Int))))), ((r2439, x2440), ((r2437, x2438), (false, ((0 : Int), ((0 : Int), ((0 : Int), (0 : Int)))))))))

def K99_0 : Nat → ((Int × (Bool × Int × Int × Int × Int) × (Int × Int) × (Int × Int) × Bool × Int × Int × Int × Int) → Option (Bool × Int × Int × Int × Int)) × (((Int × Int) × (Bool × Int × Int × Int × Int) × (Int × Int) × (Int × Int) × Bool × Int × Int × Int × Int) → Option (Bool × Int × Int × Int × Int)) × (((Int × Int × Int × Int) × (Bool × Int × Int × Int × Int) × (Int × Int) × (Int × Int) × Bool × Int × Int × Int × Int) → Option (Bool × Int × Int × Int × Int))
  | 0 => (fun _ => none, fun _ => none, fun _ => none)
  | n + 1 => (B99_0_7 (K99_0 n), B99_0_10 (K99_0 n), B99_0_15 (K99_0 n))
def fuel99_0 (v : Int × Int) : Nat := 1000
def F99_0 (v : Int × Int) : Option (Bool × Int × Int × Int × Int) := E99_0 (K99_0 (fuel99_0 v)) v
noncomputable def k99_0 : List (Known Tryz.prog E) := [Known.of envOk [1] [.keep] v78_0 F78_0 w78_0 ok78_0, Known.of envOk [1] [.keep] v107_0 F107_0 w107_0 ok107_0, Known.of envOk [9] [(.agg [.keep, .keep, .keep, .keep, .keep])] v105_0 F105_0 w105_0 ok105_0]
def s99_0_15 : List (Nat × Pat) := [(4, (.ptr 0 0 154 [.keep, .keep, .keep, .keep, .keep])), (7, (.ptr 1 0 168 [.keep, .keep])), (8, (.ptr 2 0 168 [.keep, .keep])), (9, (.ptr 3 0 154 [.keep, .keep, .keep, .keep, .keep])), (10, .keep), (11, .keep), (13, .keep), (14, .keep)]
def s99_0_10 : List (Nat × Pat) := [(4, (.ptr 0 0 154 [.keep, .keep, .keep, .keep, .keep])), (7, (.ptr 1 0 168 [.keep, .keep])), (8, (.ptr 2 0 168 [.keep, .keep])), (9, (.ptr 3 0 154 [.keep, .keep, .keep, .keep, .keep])), (10, .keep), (11, .keep)]
def s99_0_7 : List (Nat × Pat) := [(4, (.ptr 0 0 154 [.keep, .keep, .keep, .keep, .keep])), (7, (.ptr 1 0 168 [.keep, .keep])), (8, (.ptr 2 0 168 [.keep, .keep])), (9, (.ptr 3 0 154 [.keep, .keep, .keep, .keep, .keep])), (10, .keep)]
noncomputable def L99_0 (n id : Nat) (st : St G) : Option (Bool × Int × Int × Int × Int) := match Nat.beq id 7 with | true => cutK Tryz.prog s99_0_7 [] c99_0_7.dec (K99_0 n).1 st | false => match Nat.beq id 10 with | true => cutK Tryz.prog s99_0_10 [] c99_0_10.dec (K99_0 n).2.1 st | false => match Nat.beq id 15 with | true => cutK Tryz.prog s99_0_15 [] c99_0_15.dec (K99_0 n).2.2 st | false => none
set_option maxRecDepth 100000 in
theorem e99_0 (n : Nat) (v : Int × Int) : ev Tryz.prog E (oracle k99_0) Tryz.f99.ntmps (fun x => mem x [7, 10, 15]) (L99_0 n) (finF Tryz.prog E Tryz.f99.results.toList [[]] w99_0.alts) 4000 [.code (Tryz.f99.body.getD .skip)] (argSt (v99_0.enc v)) = E99_0 (K99_0 n) v := by kernel_rfl
set_option maxRecDepth 100000 in
theorem b99_0_7 (n : Nat) (v : Int × (Bool × Int × Int × Int × Int) × (Int × Int) × (Int × Int) × Bool × Int × Int × Int × Int) : evCut Tryz.prog E (oracle k99_0) false 99 Tryz.f99.ntmps (fun x => mem x [7, 10, 15]) (L99_0 n) (finF Tryz.prog E Tryz.f99.results.toList [[]] w99_0.alts) 4000 (todoAt (Tryz.f99.body.getD .skip) 7) (cutSt s99_0_7 (c99_0_7.enc v)) = B99_0_7 (K99_0 n) v := by kernel_rfl
set_option maxRecDepth 100000 in
theorem b99_0_10 (n : Nat) (v : (Int × Int) × (Bool × Int × Int × Int × Int) × (Int × Int) × (Int × Int) × Bool × Int × Int × Int × Int) : evCut Tryz.prog E (oracle k99_0) false 99 Tryz.f99.ntmps (fun x => mem x [7, 10, 15]) (L99_0 n) (finF Tryz.prog E Tryz.f99.results.toList [[]] w99_0.alts) 4000 (todoAt (Tryz.f99.body.getD .skip) 10) (cutSt s99_0_10 (c99_0_10.enc v)) = B99_0_10 (K99_0 n) v := by kernel_rfl
set_option maxRecDepth 100000 in
theorem b99_0_15 (n : Nat) (v : (Int × Int × Int × Int) × (Bool × Int × Int × Int × Int) × (Int × Int) × (Int × Int) × Bool × Int × Int × Int × Int) : evCut Tryz.prog E (oracle k99_0) false 99 Tryz.f99.ntmps (fun x => mem x [7, 10, 15]) (L99_0 n) (finF Tryz.prog E Tryz.f99.results.toList [[]] w99_0.alts) 4000 (todoAt (Tryz.f99.body.getD .skip) 15) (cutSt s99_0_15 (c99_0_15.enc v)) = B99_0_15 (K99_0 n) v := by kernel_rfl
theorem ok99_0 : FnOk Tryz.prog E 99 v99_0.enc F99_0 w99_0.enc :=
  fn_known (fn := Tryz.f99) (c := (Tryz.f99.body.getD .skip)) Tryz.func99 (by kernel_rfl) rfl envOk (oracle_ok k99_0) mixed v99_0 F99_0 w99_0 [] [[]] (by kernel_rfl) [7, 10, 15] 4000 L99_0 (by kernel_rfl)
    (List.forall_mem_cons.2 ⟨⟨_, [], s99_0_7, c99_0_7.dec, c99_0_7.enc, fun n => (K99_0 n).1, c99_0_7.ok, fun _ _ => rfl, fun _ => rfl, by kernel_rfl, fun n v _ h => (b99_0_7 n v).trans h⟩, List.forall_mem_cons.2 ⟨⟨_, [], s99_0_10, c99_0_10.dec, c99_0_10.enc, fun n => (K99_0 n).2.1, c99_0_10.ok, fun _ _ => rfl, fun _ => rfl, by kernel_rfl, fun n v _ h => (b99_0_10 n v).trans h⟩, List.forall_mem_cons.2 ⟨⟨_, [], s99_0_15, c99_0_15.dec, c99_0_15.enc, fun n => (K99_0 n).2.2, c99_0_15.ok, fun _ _ => rfl, fun _ => rfl, by kernel_rfl, fun n v _ h => (b99_0_15 n v).trans h⟩, fun _ h => (nomatch h)⟩⟩⟩) (fun v _ h => ⟨fuel99_0 v, (e99_0 _ v).trans h⟩) (fun _ => by kernel_rfl) (fun _ => by kernel_rfl) (fun _ _ => by kernel_rfl)
/- chicane/chicaneref01.plus -/
abbrev A102_0 : Type := (Int × Int × Int × Int) × Int × Int × Int × Int
abbrev R102_0 : Type := (Int × Int × Int × Int) × Int
def v102_0 : Pk G ((Int × Int × Int × Int) × Int × Int × Int × Int) := (Pk.fst (pk (Sh.cons (Sh.agg (Sh.cons (Sh.int .u64) (Sh.cons (Sh.int .u64) (Sh.cons (Sh.int .u64) (Sh.fst (Sh.cons (Sh.int .u64) Sh.nil)))))) (Sh.fst (Sh.cons (Sh.agg (Sh.cons (Sh.int .u64) (Sh.cons (Sh.int .u64) (Sh.cons (Sh.int .u64) (Sh.fst (Sh.cons (Sh.int .u64) Sh.nil)))))) Sh.nil))) Sh.hnil))
def w102_0 : Wk G ((Int × Int × Int × Int) × Int) := (Wk.one [(.agg [.keep, .keep, .keep, .keep]), .keep] (Pk.fst (pk (Sh.cons (Sh.agg (Sh.cons (Sh.int .u64) (Sh.cons (Sh.int .u64) (Sh.cons (Sh.int .u64) (Sh.fst (Sh.cons (Sh.int .u64) Sh.nil)))))) (Sh.fst (Sh.cons (Sh.int .u64) Sh.nil))) Sh.hnil)))
def F102_0 (v : (Int × Int × Int × Int) × Int × Int × Int × Int) : Option ((Int × Int × Int × Int) × Int) :=
  let x2492 : Int := (IntKind.wrap .u64 (v.1.1 + v.2.1))
  let x2493 : Int := (IntKind.wrap .u64 (x2492 + (0 : Int)))
  (F107_0 x2493).bind fun r2494 =>
  let x2495 : Int := (IntKind.wrap .u64 (Int.tdiv x2493 (4294967296 : Int)))
  let x2496 : Int := (IntKind.wrap .u64 (v.1.2.1 + v.2.2.1))
  let x2497 : Int := (IntKind.wrap .u64 (x2496 + x2495))
  (F107_0 x2497).bind fun r2498 =>
  let x2499 : Int := (IntKind.wrap .u64 (Int.tdiv x2497 (4294967296 : Int)))
  let x2500 : Int := (IntKind.wrap .u64 (v.1.2.2.1 + v.2.2.2.1))
  let x2501 : Int := (IntKind.wrap .u64 (x2500 + x2499))
  (F107_0 x2501).bind fun r2502 =>
  let x2503 : Int := (IntKind.wrap .u64 (Int.tdiv x2501 (4294967296 : Int)))
  let x2504 : Int := (IntKind.wrap .u64 (v.1.2.2.2 + v.2.2.2.2))
  let x2505 : Int := (IntKind.wrap .u64 (x2504 + x2503))
  (F107_0 x2505).bind fun r2506 =>
  let x2507 : Int := (IntKind.wrap .u64 (Int.tdiv x2505 (4294967296 : Int)))
  some ((r2494, (r2498, (r2502, r2506))), x2507)

noncomputable def k102_0 : List (Known Tryz.prog E) := [Known.of envOk [1] [.keep] v107_0 F107_0 w107_0 ok107_0]
noncomputable def L102_0 (n id : Nat) (st : St G) : Option ((Int × Int × Int × Int) × Int) := none
set_option maxRecDepth 100000 in
theorem e102_0 (n : Nat) (v : (Int × Int × Int × Int) × Int × Int × Int × Int) : ev Tryz.prog E (oracle k102_0) Tryz.f102.ntmps (fun x => mem x []) (L102_0 n) (finF Tryz.prog E Tryz.f102.results.toList [[]] w102_0.alts) 4000 [.code (Tryz.f102.body.getD .skip)] (argSt (v102_0.enc v)) = F102_0 v := by kernel_rfl
theorem ok102_0 : FnOk Tryz.prog E 102 v102_0.enc F102_0 w102_0.enc :=
  fn_known (fn := Tryz.f102) (c := (Tryz.f102.body.getD .skip)) Tryz.func102 (by kernel_rfl) rfl envOk (oracle_ok k102_0) mixed v102_0 F102_0 w102_0 [] [[]] (by kernel_rfl) [] 4000 L102_0 (by kernel_rfl)
    (fun _ h => nomatch h) (fun v _ h => ⟨0, (e102_0 _ v).trans h⟩) (fun _ => by kernel_rfl) (fun _ => by kernel_rfl) (fun _ _ => by kernel_rfl)
/- chicane/chicaneref01.Words -/
abbrev A106_0 : Type := Bool × Int × Int × Int × Int
abbrev R106_0 : Type := Int × Int × Bool
def v106_0 : Pk G (Bool × Int × Int × Int × Int) := (Pk.fst (pk (Sh.fst (Sh.cons (Sh.agg (Sh.cons Sh.bool (Sh.cons (Sh.int .u64) (Sh.cons (Sh.int .u64) (Sh.cons (Sh.int .u64) (Sh.fst (Sh.cons (Sh.int .u64) Sh.nil))))))) Sh.nil)) Sh.hnil))
def w106_0 : Wk G (Int × Int × Bool) := (Wk.one [.keep, .keep, .keep] (Pk.fst (pk (Sh.cons (Sh.int .i64) (Sh.cons (Sh.int .u64) (Sh.fst (Sh.cons Sh.bool Sh.nil)))) Sh.hnil)))
def F106_0 (v : Bool × Int × Int × Int × Int) : Option (Int × Int × Bool) :=
  let x2546 : Int := (IntKind.wrap .u64 (v.2.2.2.2 * (4294967296 : Int)))
  let x2547 : Int := (IntKind.wrap .u64 (x2546 + v.2.2.2.1))
  let x2548 : Int := (IntKind.wrap .u64 (v.2.2.1 * (4294967296 : Int)))
  let x2549 : Int := (IntKind.wrap .u64 (x2548 + v.2.1))
  bif (decide (x2547 > (9223372036854775808 : Int))) then
    some ((0 : Int), ((0 : Int), false))
  else
    bif (x2547 == (9223372036854775808 : Int)) then
      bif (x2549 != (0 : Int)) then
        some ((0 : Int), ((0 : Int), false))
      else
        bif (!v.1) then
          some ((0 : Int), ((0 : Int), false))
        else
          bif v.1 then
            let x2550 : Int := (Go.bits .xor .u64 (18446744073709551615) x2549)
            let x2551 : Int := (IntKind.wrap .u64 (x2550 + (1 : Int)))
            let x2552 : Int := (Go.bits .xor .u64 (18446744073709551615) x2547)
            bif (x2551 == (0 : Int)) then
              let x2553 : Int := (IntKind.wrap .u64 (x2552 + (1 : Int)))
              let x2554 : Int := (IntKind.wrap .i64 x2553)
              some (x2554, (x2551, true))
            else
              let x2555 : Int := (IntKind.wrap .i64 x2552)
              some (x2555, (x2551, true))
          else
            let x2556 : Int := (IntKind.wrap .i64 x2547)
            some (x2556, (x2549, true))
    else
      bif v.1 then
        let x2557 : Int := (Go.bits .xor .u64 (18446744073709551615) x2549)
        let x2558 : Int := (IntKind.wrap .u64 (x2557 + (1 : Int)))
        let x2559 : Int := (Go.bits .xor .u64 (18446744073709551615) x2547)
        bif (x2558 == (0 : Int)) then
          let x2560 : Int := (IntKind.wrap .u64 (x2559 + (1 : Int)))
          let x2561 : Int := (IntKind.wrap .i64 x2560)
          some (x2561, (x2558, true))
        else
          let x2562 : Int := (IntKind.wrap .i64 x2559)
          some (x2562, (x2558, true))
      else
        let x2563 : Int := (IntKind.wrap .i64 x2547)
        some (x2563, (x2549, true))

noncomputable def k106_0 : List (Known Tryz.prog E) := []
noncomputable def L106_0 (n id : Nat) (st : St G) : Option (Int × Int × Bool) := none
set_option maxRecDepth 100000 in
theorem e106_0 (n : Nat) (v : Bool × Int × Int × Int × Int) : ev Tryz.prog E (oracle k106_0) Tryz.f106.ntmps (fun x => mem x []) (L106_0 n) (finF Tryz.prog E Tryz.f106.results.toList [[]] w106_0.alts) 4000 [.code (Tryz.f106.body.getD .skip)] (argSt (v106_0.enc v)) = F106_0 v := by kernel_rfl
theorem ok106_0 : FnOk Tryz.prog E 106 v106_0.enc F106_0 w106_0.enc :=
  fn_known (fn := Tryz.f106) (c := (Tryz.f106.body.getD .skip)) Tryz.func106 (by kernel_rfl) rfl envOk (oracle_ok k106_0) mixed v106_0 F106_0 w106_0 [] [[]] (by kernel_rfl) [] 4000 L106_0 (by kernel_rfl)
    (fun _ h => nomatch h) (fun v _ h => ⟨0, (e106_0 _ v).trans h⟩) (fun _ => by kernel_rfl) (fun _ => by kernel_rfl) (fun _ _ => by kernel_rfl)
/- chicane/chicaneref01.less -/
abbrev A103_0 : Type := (Int × Int × Int × Int) × Int × Int × Int × Int
abbrev R103_0 : Type := Bool
def v103_0 : Pk G ((Int × Int × Int × Int) × Int × Int × Int × Int) := (Pk.fst (pk (Sh.cons (Sh.agg (Sh.cons (Sh.int .u64) (Sh.cons (Sh.int .u64) (Sh.cons (Sh.int .u64) (Sh.fst (Sh.cons (Sh.int .u64) Sh.nil)))))) (Sh.fst (Sh.cons (Sh.agg (Sh.cons (Sh.int .u64) (Sh.cons (Sh.int .u64) (Sh.cons (Sh.int .u64) (Sh.fst (Sh.cons (Sh.int .u64) Sh.nil)))))) Sh.nil))) Sh.hnil))
def w103_0 : Wk G Bool := (Wk.one [.keep] (Pk.fst (pk (Sh.fst (Sh.cons Sh.bool Sh.nil)) Sh.hnil)))
def F103_0 (v : (Int × Int × Int × Int) × Int × Int × Int × Int) : Option Bool :=
  bif (v.1.2.2.2 != v.2.2.2.2) then
    some (decide (v.1.2.2.2 < v.2.2.2.2))
  else
    bif (v.1.2.2.1 != v.2.2.2.1) then
      some (decide (v.1.2.2.1 < v.2.2.2.1))
    else
      bif (v.1.2.1 != v.2.2.1) then
        some (decide (v.1.2.1 < v.2.2.1))
      else
        bif (v.1.1 != v.2.1) then
          some (decide (v.1.1 < v.2.1))
        else
          some (false)

noncomputable def k103_0 : List (Known Tryz.prog E) := []
noncomputable def L103_0 (n id : Nat) (st : St G) : Option Bool := none
set_option maxRecDepth 100000 in
theorem e103_0 (n : Nat) (v : (Int × Int × Int × Int) × Int × Int × Int × Int) : ev Tryz.prog E (oracle k103_0) Tryz.f103.ntmps (fun x => mem x []) (L103_0 n) (finF Tryz.prog E Tryz.f103.results.toList [[]] w103_0.alts) 4000 [.code (Tryz.f103.body.getD .skip)] (argSt (v103_0.enc v)) = F103_0 v := by kernel_rfl
theorem ok103_0 : FnOk Tryz.prog E 103 v103_0.enc F103_0 w103_0.enc :=
  fn_known (fn := Tryz.f103) (c := (Tryz.f103.body.getD .skip)) Tryz.func103 (by kernel_rfl) rfl envOk (oracle_ok k103_0) mixed v103_0 F103_0 w103_0 [] [[]] (by kernel_rfl) [] 4000 L103_0 (by kernel_rfl)
    (fun _ h => nomatch h) (fun v _ h => ⟨0, (e103_0 _ v).trans h⟩) (fun _ => by kernel_rfl) (fun _ => by kernel_rfl) (fun _ _ => by kernel_rfl)
/- chicane/chicaneref01.minus -/
abbrev A104_0 : Type := (Int × Int × Int × Int) × Int × Int × Int × Int
abbrev R104_0 : Type := Int × Int × Int × Int
def v104_0 : Pk G ((Int × Int × Int × Int) × Int × Int × Int × Int) := (Pk.fst (pk (Sh.cons (Sh.agg (Sh.cons (Sh.int .u64) (Sh.cons (Sh.int .u64) (Sh.cons (Sh.int .u64) (Sh.fst (Sh.cons (Sh.int .u64) Sh.nil)))))) (Sh.fst (Sh.cons (Sh.agg (Sh.cons (Sh.int .u64) (Sh.cons (Sh.int .u64) (Sh.cons (Sh.int .u64) (Sh.fst (Sh.cons (Sh.int .u64) Sh.nil)))))) Sh.nil))) Sh.hnil))
def w104_0 : Wk G (Int × Int × Int × Int) := (Wk.one [(.agg [.keep, .keep, .keep, .keep])] (Pk.fst (pk (Sh.fst (Sh.cons (Sh.agg (Sh.cons (Sh.int .u64) (Sh.cons (Sh.int .u64) (Sh.cons (Sh.int .u64) (Sh.fst (Sh.cons (Sh.int .u64) Sh.nil)))))) Sh.nil)) Sh.hnil)))
def F104_0 (v : (Int × Int × Int × Int) × Int × Int × Int × Int) : Option (Int × Int × Int × Int) :=
  let x2615 : Int := (IntKind.wrap .u64 (v.1.1 + (4294967296 : Int)))
  let x2616 : Int := (IntKind.wrap .u64 (x2615 - v.2.1))
  let x2617 : Int := (IntKind.wrap .u64 (x2616 - (0 : Int)))
  (F107_0 x2617).bind fun r2618 =>
  let x2619 : Int := (IntKind.wrap .u64 (Int.tdiv x2617 (4294967296 : Int)))
  let x2620 : Int := (IntKind.wrap .u64 ((1 : Int) - x2619))
  let x2621 : Int := (IntKind.wrap .u64 (v.1.2.1 + (4294967296 : Int)))
  let x2622 : Int := (IntKind.wrap .u64 (x2621 - v.2.2.1))
  let x2623 : Int := (IntKind.wrap .u64 (x2622 - x2620))
  (F107_0 x2623).bind fun r2624 =>
  let x2625 : Int := (IntKind.wrap .u64 (Int.tdiv x2623 (4294967296 : Int)))
  let x2626 : Int := (IntKind.wrap .u64 ((1 : Int) - x2625))
  let x2627 : Int := (IntKind.wrap .u64 (v.1.2.2.1 + (4294967296 : Int)))
  let x2628 : Int := (IntKind.wrap .u64 (x2627 - v.2.2.2.1))
  let x2629 : Int := (IntKind.wrap .u64 (x2628 - x2626))
  (F107_0 x2629).bind fun r2630 =>
  let x2631 : Int := (IntKind.wrap .u64 (Int.tdiv x2629 (4294967296 : Int)))
  let x2632 : Int := (IntKind.wrap .u64 ((1 : Int) - x2631))
  let x2633 : Int := (IntKind.wrap .u64 (v.1.2.2.2 + (4294967296 : Int)))
  let x2634 : Int := (IntKind.wrap .u64 (x2633 - v.2.2.2.2))
  let x2635 : Int := (IntKind.wrap .u64 (x2634 - x2632))
  (F107_0 x2635).bind fun r2636 =>
  some (r2618, (r2624, (r2630, r2636)))

noncomputable def k104_0 : List (Known Tryz.prog E) := [Known.of envOk [1] [.keep] v107_0 F107_0 w107_0 ok107_0]
noncomputable def L104_0 (n id : Nat) (st : St G) : Option (Int × Int × Int × Int) := none
set_option maxRecDepth 100000 in
theorem e104_0 (n : Nat) (v : (Int × Int × Int × Int) × Int × Int × Int × Int) : ev Tryz.prog E (oracle k104_0) Tryz.f104.ntmps (fun x => mem x []) (L104_0 n) (finF Tryz.prog E Tryz.f104.results.toList [[]] w104_0.alts) 4000 [.code (Tryz.f104.body.getD .skip)] (argSt (v104_0.enc v)) = F104_0 v := by kernel_rfl
theorem ok104_0 : FnOk Tryz.prog E 104 v104_0.enc F104_0 w104_0.enc :=
  fn_known (fn := Tryz.f104) (c := (Tryz.f104.body.getD .skip)) Tryz.func104 (by kernel_rfl) rfl envOk (oracle_ok k104_0) mixed v104_0 F104_0 w104_0 [] [[]] (by kernel_rfl) [] 4000 L104_0 (by kernel_rfl)
    (fun _ h => nomatch h) (fun v _ h => ⟨0, (e104_0 _ v).trans h⟩) (fun _ => by kernel_rfl) (fun _ => by kernel_rfl) (fun _ _ => by kernel_rfl)
/- chicane/chicaneref01.Add -/
abbrev A98_0 : Type := (Bool × Int × Int × Int × Int) × Bool × Int × Int × Int × Int
abbrev R98_0 : Type := (Bool × Int × Int × Int × Int) × Bool
def v98_0 : Pk G ((Bool × Int × Int × Int × Int) × Bool × Int × Int × Int × Int) := (Pk.fst (pk (Sh.cons (Sh.agg (Sh.cons Sh.bool (Sh.cons (Sh.int .u64) (Sh.cons (Sh.int .u64) (Sh.cons (Sh.int .u64) (Sh.fst (Sh.cons (Sh.int .u64) Sh.nil))))))) (Sh.fst (Sh.cons (Sh.agg (Sh.cons Sh.bool (Sh.cons (Sh.int .u64) (Sh.cons (Sh.int .u64) (Sh.cons (Sh.int .u64) (Sh.fst (Sh.cons (Sh.int .u64) Sh.nil))))))) Sh.nil))) Sh.hnil))
def w98_0 : Wk G ((Bool × Int × Int × Int × Int) × Bool) := (Wk.one [(.agg [.keep, .keep, .keep, .keep, .keep]), .keep] (Pk.fst (pk (Sh.cons (Sh.agg (Sh.cons Sh.bool (Sh.cons (Sh.int .u64) (Sh.cons (Sh.int .u64) (Sh.cons (Sh.int .u64) (Sh.fst (Sh.cons (Sh.int .u64) Sh.nil))))))) (Sh.fst (Sh.cons Sh.bool Sh.nil))) Sh.hnil)))
def F98_0 (v : (Bool × Int × Int × Int × Int) × Bool × Int × Int × Int × Int) : Option ((Bool × Int × Int × Int × Int) × Bool) :=
  bif (v.1.1 == v.2.1) then
    (F102_0 (v.1.2, v.2.2)).bind fun r2660 =>
    (F105_0 (v.1.1, r2660.1)).bind fun r2661 =>
    bif r2661 then
      (F106_0 (false, r2660.1)).bind fun r2662 =>
      bif (!(r2660.2 == (0 : Int))) then
        some ((false, ((0 : Int), ((0 : Int), ((0 : Int), (0 : Int))))), false)
      else
        bif (!r2662.2.2) then
          some ((false, ((0 : Int), ((0 : Int), ((0 : Int), (0 : Int))))), false)
        else
          some ((false, r2660.1), true)
    else
      (F106_0 (v.1.1, r2660.1)).bind fun r2663 =>
      bif (!(r2660.2 == (0 : Int))) then
        some ((false, ((0 : Int), ((0 : Int), ((0 : Int), (0 : Int))))), false)
      else
        bif (!r2663.2.2) then
          some ((false, ((0 : Int), ((0 : Int), ((0 : Int), (0 : Int))))), false)
        else
          some ((v.1.1, r2660.1), true)
  else
    (F103_0 (v.1.2, v.2.2)).bind fun r2664 =>
    bif r2664 then
      (F104_0 (v.2.2, v.1.2)).bind fun r2665 =>
      (F105_0 (v.2.1, r2665)).bind fun r2666 =>
      bif r2666 then
        (F106_0 (false, r2665)).bind fun r2667 =>
        bif (!r2667.2.2) then
          some ((false, ((0 : Int), ((0 : Int), ((0 : Int), (0 : Int))))), false)
        else
          some ((false, r2665), true)
      else
        (F106_0 (v.2.1, r2665)).bind fun r2668 =>
        bif (!r2668.2.2) then
          some ((false, ((0 : Int), ((0 : Int), ((0 : Int), (0 : Int))))), false)
        else
          some ((v.2.1, r2665), true)
    else
      (F104_0 (v.1.2, v.2.2)).bind fun r2669 =>
      (F105_0 (v.1.1, r2669)).bind fun r2670 =>
      bif r2670 then
        (F106_0 (false, r2669)).bind fun r2671 =>
        bif (!r2671.2.2) then
          some ((false, ((0 : Int), ((0 : Int), ((0 : Int), (0 : Int))))), false)
        else
          some ((false, r2669), true)
      else
        (F106_0 (v.1.1, r2669)).bind fun r2672 =>
        bif (!r2672.2.2) then
          some ((false, ((0 : Int), ((0 : Int), ((0 : Int), (0 : Int))))), false)
        else
          some ((v.1.1, r2669), true)

noncomputable def k98_0 : List (Known Tryz.prog E) := [Known.of envOk [9, 9] [(.agg [.keep, .keep, .keep, .keep]), (.agg [.keep, .keep, .keep, .keep])] v102_0 F102_0 w102_0 ok102_0, Known.of envOk [9] [(.agg [.keep, .keep, .keep, .keep, .keep])] v105_0 F105_0 w105_0 ok105_0, Known.of envOk [9] [(.agg [.keep, .keep, .keep, .keep, .keep])] v106_0 F106_0 w106_0 ok106_0, Known.of envOk [9, 9] [(.agg [.keep, .keep, .keep, .keep]), (.agg [.keep, .keep, .keep, .keep])] v103_0 F103_0 w103_0 ok103_0, Known.of envOk [9, 9] [(.agg [.keep, .keep, .keep, .keep]), (.agg [.keep, .keep, .keep, .keep])] v104_0 F104_0 w104_0 ok104_0]
noncomputable def L98_0 (n id : Nat) (st : St G) : Option ((Bool × Int × Int × Int × Int) × Bool) := none
set_option maxRecDepth 100000 in
theorem e98_0 (n : Nat) (v : (Bool × Int × Int × Int × Int) × Bool × Int × Int × Int × Int) : ev Tryz.prog E (oracle k98_0) Tryz.f98.ntmps (fun x => mem x []) (L98_0 n) (finF Tryz.prog E Tryz.f98.results.toList [[]] w98_0.alts) 4000 [.code (Tryz.f98.body.getD .skip)] (argSt (v98_0.enc v)) = F98_0 v := by kernel_rfl
theorem ok98_0 : FnOk Tryz.prog E 98 v98_0.enc F98_0 w98_0.enc :=
  fn_known (fn := Tryz.f98) (c := (Tryz.f98.body.getD .skip)) Tryz.func98 (by kernel_rfl) rfl envOk (oracle_ok k98_0) mixed v98_0 F98_0 w98_0 [] [[]] (by kernel_rfl) [] 4000 L98_0 (by kernel_rfl)
    (fun _ h => nomatch h) (fun v _ h => ⟨0, (e98_0 _ v).trans h⟩) (fun _ => by kernel_rfl) (fun _ => by kernel_rfl) (fun _ _ => by kernel_rfl)
/- chicane/chicaneref01.Sign -/
abbrev A108_0 : Type := Bool × Int × Int × Int × Int
abbrev R108_0 : Type := Int
def v108_0 : Pk G (Bool × Int × Int × Int × Int) := (Pk.fst (pk (Sh.fst (Sh.cons (Sh.agg (Sh.cons Sh.bool (Sh.cons (Sh.int .u64) (Sh.cons (Sh.int .u64) (Sh.cons (Sh.int .u64) (Sh.fst (Sh.cons (Sh.int .u64) Sh.nil))))))) Sh.nil)) Sh.hnil))
def w108_0 : Wk G Int := (Wk.one [.keep] (Pk.fst (pk (Sh.fst (Sh.cons (Sh.int .i64) Sh.nil)) Sh.hnil)))
def F108_0 (v : Bool × Int × Int × Int × Int) : Option Int :=
  (F105_0 v).bind fun r2680 =>
  bif r2680 then
    some (0 : Int)
  else
    bif v.1 then
      some (-1 : Int)
    else
      some (1 : Int)

noncomputable def k108_0 : List (Known Tryz.prog E) := [Known.of envOk [9] [(.agg [.keep, .keep, .keep, .keep, .keep])] v105_0 F105_0 w105_0 ok105_0]
noncomputable def L108_0 (n id : Nat) (st : St G) : Option Int := none
set_option maxRecDepth 100000 in
theorem e108_0 (n : Nat) (v : Bool × Int × Int × Int × Int) : ev Tryz.prog E (oracle k108_0) Tryz.f108.ntmps (fun x => mem x []) (L108_0 n) (finF Tryz.prog E Tryz.f108.results.toList [[]] w108_0.alts) 4000 [.code (Tryz.f108.body.getD .skip)] (argSt (v108_0.enc v)) = F108_0 v := by kernel_rfl
theorem ok108_0 : FnOk Tryz.prog E 108 v108_0.enc F108_0 w108_0.enc :=
  fn_known (fn := Tryz.f108) (c := (Tryz.f108.body.getD .skip)) Tryz.func108 (by kernel_rfl) rfl envOk (oracle_ok k108_0) mixed v108_0 F108_0 w108_0 [] [[]] (by kernel_rfl) [] 4000 L108_0 (by kernel_rfl)
    (fun _ h => nomatch h) (fun v _ h => ⟨0, (e108_0 _ v).trans h⟩) (fun _ => by kernel_rfl) (fun _ => by kernel_rfl) (fun _ _ => by kernel_rfl)
/- chicane/chicaneref01.square -/
abbrev A109_0 : Type := Int
abbrev R109_0 : Type := Int × Int × Int × Int
def v109_0 : Pk G Int := (Pk.fst (pk (Sh.fst (Sh.cons (Sh.int .u64) Sh.nil)) Sh.hnil))
def w109_0 : Wk G (Int × Int × Int × Int) := (Wk.one [(.agg [.keep, .keep, .keep, .keep])] (Pk.fst (pk (Sh.fst (Sh.cons (Sh.agg (Sh.cons (Sh.int .u64) (Sh.cons (Sh.int .u64) (Sh.cons (Sh.int .u64) (Sh.fst (Sh.cons (Sh.int .u64) Sh.nil)))))) Sh.nil)) Sh.hnil)))
def c109_0_4 : Pk G (Int × (Int × Int × Int × Int) × (Int × Int) × Int × Int × Int × Int) := (pk (Sh.snd (Sh.cons (Sh.ptr 0 0) (Sh.snd (Sh.cons (Sh.ptr 1 0) (Sh.snd (Sh.cons (Sh.ptr 2 0) (Sh.fst (Sh.cons (Sh.int .i64) Sh.nil)))))))) (Sh.hfix 2 130 (Sh.cons (Sh.int .u64) (Sh.cons (Sh.int .u64) (Sh.cons (Sh.int .u64) (Sh.fst (Sh.cons (Sh.int .u64) Sh.nil))))) (Sh.hfix 1 168 (Sh.cons (Sh.int .u64) (Sh.fst (Sh.cons (Sh.int .u64) Sh.nil))) (Sh.fst (Sh.hfix 0 130 (Sh.cons (Sh.int .u64) (Sh.cons (Sh.int .u64) (Sh.cons (Sh.int .u64) (Sh.fst (Sh.cons (Sh.int .u64) Sh.nil))))) Sh.hnil)))))
def c109_0_7 : Pk G ((Int × Int) × (Int × Int × Int × Int) × (Int × Int) × Int × Int × Int × Int) := (pk (Sh.snd (Sh.cons (Sh.ptr 0 0) (Sh.snd (Sh.cons (Sh.ptr 1 0) (Sh.snd (Sh.cons (Sh.ptr 2 0) (Sh.cons (Sh.int .i64) (Sh.fst (Sh.cons (Sh.int .i64) Sh.nil))))))))) (Sh.hfix 2 130 (Sh.cons (Sh.int .u64) (Sh.cons (Sh.int .u64) (Sh.cons (Sh.int .u64) (Sh.fst (Sh.cons (Sh.int .u64) Sh.nil))))) (Sh.hfix 1 168 (Sh.cons (Sh.int .u64) (Sh.fst (Sh.cons (Sh.int .u64) Sh.nil))) (Sh.fst (Sh.hfix 0 130 (Sh.cons (Sh.int .u64) (Sh.cons (Sh.int .u64) (Sh.cons (Sh.int .u64) (Sh.fst (Sh.cons (Sh.int .u64) Sh.nil))))) Sh.hnil)))))
def c109_0_11 : Pk G ((Int × Int × Int × Int) × (Int × Int × Int × Int) × (Int × Int) × Int × Int × Int × Int) := (pk (Sh.snd (Sh.cons (Sh.ptr 0 0) (Sh.snd (Sh.cons (Sh.ptr 1 0) (Sh.snd (Sh.cons (Sh.ptr 2 0) (Sh.cons (Sh.int .i64) (Sh.cons (Sh.int .i64) (Sh.cons (Sh.int .u64) (Sh.fst (Sh.cons (Sh.int .i64) Sh.nil))))))))))) (Sh.hfix 2 130 (Sh.cons (Sh.int .u64) (Sh.cons (Sh.int .u64) (Sh.cons (Sh.int .u64) (Sh.fst (Sh.cons (Sh.int .u64) Sh.nil))))) (Sh.hfix 1 168 (Sh.cons (Sh.int .u64) (Sh.fst (Sh.cons (Sh.int .u64) Sh.nil))) (Sh.fst (Sh.hfix 0 130 (Sh.cons (Sh.int .u64) (Sh.cons (Sh.int .u64) (Sh.cons (Sh.int .u64) (Sh.fst (Sh.cons (Sh.int .u64) Sh.nil))))) Sh.hnil)))))
def B109_0_4 (K : ((Int × (Int × Int × Int × Int) × (Int × Int) × Int × Int × Int × Int) → Option (Int × Int × Int × Int)) × (((Int × Int) × (Int × Int × Int × Int) × (Int × Int) × Int × Int × Int × Int) → Option (Int × Int × Int × Int)) × (((Int × Int × Int × Int) × (Int × Int × Int × Int) × (Int × Int) × Int × Int × Int × Int) → Option (Int × Int × Int × Int))) (v : Int × (Int × Int × Int × Int) × (Int × Int) × Int × Int × Int × Int) : Option (Int × Int × Int × Int) :=
  bif (decide (v.1 < (2 : Int))) then
    K.2.1 ((v.1, (0 : Int)), v.2)
  else
    some (v.2.1)

def B109_0_7 (K : ((Int × (Int × Int × Int × Int) × (Int × Int) × Int × Int × Int × Int) → Option (Int × Int × Int × Int)) × (((Int × Int) × (Int × Int × Int × Int) × (Int × Int) × Int × Int × Int × Int) → Option (Int × Int × Int × Int)) × (((Int × Int × Int × Int) × (Int × Int × Int × Int) × (Int × Int) × Int × Int × Int × Int) → Option (Int × Int × Int × Int))) (v : (Int × Int) × (Int × Int × Int × Int) × (Int × Int) × Int × Int × Int × Int) : Option (Int × Int × Int × Int) :=
  bif (decide (v.1.2 < (2 : Int))) then
    (idx v.1.1 2).bind fun (x2756 : Nat) =>
    (idx v.1.2 2).bind fun (x2757 : Nat) =>
    let x2758 : Int := (IntKind.wrap .u64 ((List.getD [v.2.2.1.1, v.2.2.1.2] x2756 0) * (List.getD [v.2.2.1.1, v.2.2.1.2] x2757 0)))
    let x2759 : Int := (IntKind.wrap .i64 (v.1.1 + v.1.2))
    K.2.2 ((v.1.1, (v.1.2, (x2758, x2759))), v.2)
  else
    let x2760 : Int := (IntKind.wrap .i64 (v.1.1 + (1 : Int)))
    K.1 (x2760, v.2)

def B109_0_11 (K : ((Int × (Int × Int × Int × Int) × (Int × Int) × Int × Int × Int × Int) → Option (Int × Int × Int × Int)) × (((Int × Int) × (Int × Int × Int × Int) × (Int × Int) × Int × Int × Int × Int) → Option (Int × Int × Int × Int)) × (((Int × Int × Int × Int) × (Int × Int × Int × Int) × (Int × Int) × Int × Int × Int × Int) → Option (Int × Int × Int × Int))) (v : (Int × Int × Int × Int) × (Int × Int × Int × Int) × (Int × Int) × Int × Int × Int × Int) : Option (Int × Int × Int × Int) :=
  bif (decide (v.1.2.2.2 < (4 : Int))) then
    bif (decide (v.1.2.2.1 > (0 : Int))) then
      (idx v.1.2.2.2 4).bind fun (x2761 : Nat) =>
      (F107_0 v.1.2.2.1).bind fun r2762 =>
      let x2763 : Int := (IntKind.wrap .u64 ((List.getD [v.2.1.1, v.2.1.2.1, v.2.1.2.2.1, v.2.1.2.2.2] x2761 0) + r2762))
      (F107_0 x2763).bind fun r2764 =>
      (idx v.1.2.2.2 4).bind fun (x2765 : Nat) =>
      let x2766 : Int := (IntKind.wrap .u64 (Int.tdiv v.1.2.2.1 (4294967296 : Int)))
      let x2767 : Int := (IntKind.wrap .u64 (Int.tdiv x2763 (4294967296 : Int)))
      let x2768 : Int := (IntKind.wrap .u64 (x2766 + x2767))
      let x2769 : Int := (IntKind.wrap .i64 (v.1.2.2.2 + (1 : Int)))
      K.2.2 ((v.1.1, (v.1.2.1, (x2768, x2769))), (((if x2765 = 0 then r2764 else v.2.1.1), ((if x2765 = 1 then r2764 else v.2.1.2.1), ((if x2765 = 2 then r2764 else v.2.1.2.2.1), (if x2765 = 3 then r2764 else v.2.1.2.2.2)))), v.2.2))
    else
      let x2770 : Int := (IntKind.wrap .i64 (v.1.2.1 + (1 : Int)))
      K.2.1 ((v.1.1, x2770), v.2)
  else
    let x2771 : Int := (IntKind.wrap .i64 (v.1.2.1 + (1 : Int)))
    K.2.1 ((v.1.1, x2771), v.2)

def E109_0 (K : ((Int × (Int × Int × Int × Int) × (Int × Int) × Int × Int × Int × Int) → Option (Int × Int × Int × Int)) × (((Int × Int) × (Int × Int × Int × Int) × (Int × Int) × Int × Int × Int × Int) → Option (Int × Int × Int × Int)) × (((Int × Int × Int × Int) × (Int × Int × Int × Int) × (Int × Int) × Int × Int × Int × Int) → Option (Int × Int × Int × Int))) (v : Int) : Option (Int × Int × Int × Int) :=
  (F107_0 v).bind fun r2754 =>
  let x2755 : Int := (IntKind.wrap .u64 (Int.tdiv v (4294967296 : Int)))
  K.1 ((0 : Int), (((0 : Int), ((0 : Int), ((0 : Int), (0 : Int)))), ((r2754, x2755), ((0 : Int), ((0 : Int), ((0 : Int), (0 : Int)))))))

def K109_0 : Nat → ((Int × (Int × Int × Int × Int) × (Int × Int) × Int × Int × Int × Int) → Option (Int × Int × Int × Int)) × (((Int × Int) × (Int × Int × Int × Int) × (Int × Int) × Int × Int × Int × Int) → Option (Int × Int × Int × Int)) × (((Int × Int × Int × Int) × (Int × Int × Int × Int) × (Int × Int) × Int × Int × Int × Int) → Option (Int × Int × Int × Int))
  | 0 => (fun _ => none, fun _ => none, fun _ => none)
  | n + 1 => (B109_0_4 (K109_0 n), B109_0_7 (K109_0 n), B109_0_11 (K109_0 n))
def fuel109_0 (v : Int) : Nat := 1000
def F109_0 (v : Int) : Option (Int × Int × Int × Int) := E109_0 (K109_0 (fuel109_0 v)) v
noncomputable def k109_0 : List (Known Tryz.prog E) := [Known.of envOk [1] [.keep] v107_0 F107_0 w107_0 ok107_0]
def s109_0_11 : List (Nat × Pat) := [(2, (.ptr 0 0 130 [.keep, .keep, .keep, .keep])), (3, (.ptr 1 0 168 [.keep, .keep])), (4, (.ptr 2 0 130 [.keep, .keep, .keep, .keep])), (5, .keep), (6, .keep), (7, .keep), (8, .keep)]
def s109_0_7 : List (Nat × Pat) := [(2, (.ptr 0 0 130 [.keep, .keep, .keep, .keep])), (3, (.ptr 1 0 168 [.keep, .keep])), (4, (.ptr 2 0 130 [.keep, .keep, .keep, .keep])), (5, .keep), (6, .keep)]
def s109_0_4 : List (Nat × Pat) := [(2, (.ptr 0 0 130 [.keep, .keep, .keep, .keep])), (3, (.ptr 1 0 168 [.keep, .keep])), (4, (.ptr 2 0 130 [.keep, .keep, .keep, .keep])), (5, .keep)]
noncomputable def L109_0 (n id : Nat) (st : St G) : Option (Int × Int × Int × Int) := match Nat.beq id 4 with | true => cutK Tryz.prog s109_0_4 [] c109_0_4.dec (K109_0 n).1 st | false => match Nat.beq id 7 with | true => cutK Tryz.prog s109_0_7 [] c109_0_7.dec (K109_0 n).2.1 st | false => match Nat.beq id 11 with | true => cutK Tryz.prog s109_0_11 [] c109_0_11.dec (K109_0 n).2.2 st | false => none
set_option maxRecDepth 100000 in
theorem e109_0 (n : Nat) (v : Int) : ev Tryz.prog E (oracle k109_0) Tryz.f109.ntmps (fun x => mem x [4, 7, 11]) (L109_0 n) (finF Tryz.prog E Tryz.f109.results.toList [[]] w109_0.alts) 4000 [.code (Tryz.f109.body.getD .skip)] (argSt (v109_0.enc v)) = E109_0 (K109_0 n) v := by kernel_rfl
set_option maxRecDepth 100000 in
theorem b109_0_4 (n : Nat) (v : Int × (Int × Int × Int × Int) × (Int × Int) × Int × Int × Int × Int) : evCut Tryz.prog E (oracle k109_0) false 109 Tryz.f109.ntmps (fun x => mem x [4, 7, 11]) (L109_0 n) (finF Tryz.prog E Tryz.f109.results.toList [[]] w109_0.alts) 4000 (todoAt (Tryz.f109.body.getD .skip) 4) (cutSt s109_0_4 (c109_0_4.enc v)) = B109_0_4 (K109_0 n) v := by kernel_rfl
set_option maxRecDepth 100000 in
theorem b109_0_7 (n : Nat) (v : (Int × Int) × (Int × Int × Int × Int) × (Int × Int) × Int × Int × Int × Int) : evCut Tryz.prog E (oracle k109_0) false 109 Tryz.f109.ntmps (fun x => mem x [4, 7, 11]) (L109_0 n) (finF Tryz.prog E Tryz.f109.results.toList [[]] w109_0.alts) 4000 (todoAt (Tryz.f109.body.getD .skip) 7) (cutSt s109_0_7 (c109_0_7.enc v)) = B109_0_7 (K109_0 n) v := by kernel_rfl
set_option maxRecDepth 100000 in
theorem b109_0_11 (n : Nat) (v : (Int × Int × Int × Int) × (Int × Int × Int × Int) × (Int × Int) × Int × Int × Int × Int) : evCut Tryz.prog E (oracle k109_0) false 109 Tryz.f109.ntmps (fun x => mem x [4, 7, 11]) (L109_0 n) (finF Tryz.prog E Tryz.f109.results.toList [[]] w109_0.alts) 4000 (todoAt (Tryz.f109.body.getD .skip) 11) (cutSt s109_0_11 (c109_0_11.enc v)) = B109_0_11 (K109_0 n) v := by kernel_rfl
theorem ok109_0 : FnOk Tryz.prog E 109 v109_0.enc F109_0 w109_0.enc :=
  fn_known (fn := Tryz.f109) (c := (Tryz.f109.body.getD .skip)) Tryz.func109 (by kernel_rfl) rfl envOk (oracle_ok k109_0) mixed v109_0 F109_0 w109_0 [] [[]] (by kernel_rfl) [4, 7, 11] 4000 L109_0 (by kernel_rfl)
    (List.forall_mem_cons.2 ⟨⟨_, [], s109_0_4, c109_0_4.dec, c109_0_4.enc, fun n => (K109_0 n).1, c109_0_4.ok, fun _ _ => rfl, fun _ => rfl, by kernel_rfl, fun n v _ h => (b109_0_4 n v).trans h⟩, List.forall_mem_cons.2 ⟨⟨_, [], s109_0_7, c109_0_7.dec, c109_0_7.enc, fun n => (K109_0 n).2.1, c109_0_7.ok, fun _ _ => rfl, fun _ => rfl, by kernel_rfl, fun n v _ h => (b109_0_7 n v).trans h⟩, List.forall_mem_cons.2 ⟨⟨_, [], s109_0_11, c109_0_11.dec, c109_0_11.enc, fun n => (K109_0 n).2.2, c109_0_11.ok, fun _ _ => rfl, fun _ => rfl, by kernel_rfl, fun n v _ h => (b109_0_11 n v).trans h⟩, fun _ h => (nomatch h)⟩⟩⟩) (fun v _ h => ⟨fuel109_0 v, (e109_0 _ v).trans h⟩) (fun _ => by kernel_rfl) (fun _ => by kernel_rfl) (fun _ _ => by kernel_rfl)
/- chicane/chicaneref01.Root -/
abbrev A100_0 : Type := Bool × Int × Int × Int × Int
abbrev R100_0 : Type := Int
def v100_0 : Pk G (Bool × Int × Int × Int × Int) := (Pk.fst (pk (Sh.fst (Sh.cons (Sh.agg (Sh.cons Sh.bool (Sh.cons (Sh.int .u64) (Sh.cons (Sh.int .u64) (Sh.cons (Sh.int .u64) (Sh.fst (Sh.cons (Sh.int .u64) Sh.nil))))))) Sh.nil)) Sh.hnil))
def w100_0 : Wk G Int := (Wk.one [.keep] (Pk.fst (pk (Sh.fst (Sh.cons (Sh.int .u64) Sh.nil)) Sh.hnil)))
def c100_0_5 : Pk G ((Int × Int) × Bool × Int × Int × Int × Int) := (pk (Sh.snd (Sh.cons (Sh.ptr 0 0) (Sh.cons (Sh.int .u64) (Sh.fst (Sh.cons (Sh.int .i64) Sh.nil))))) (Sh.fst (Sh.hfix 0 154 (Sh.cons Sh.bool (Sh.cons (Sh.int .u64) (Sh.cons (Sh.int .u64) (Sh.cons (Sh.int .u64) (Sh.fst (Sh.cons (Sh.int .u64) Sh.nil)))))) Sh.hnil)))
def B100_0_5 (K : (((Int × Int) × Bool × Int × Int × Int × Int) → Option Int)) (v : (Int × Int) × Bool × Int × Int × Int × Int) : Option Int :=
  bif (decide (v.1.2 ≥ (0 : Int))) then
    let x2786 : Int := (IntKind.wrap .u64 v.1.2)
    (chk (decide (0 ≤ x2786))).bind fun _ =>
    let x2787 : Int := (IntKind.wrap .u64 ((1 : Int) * 2 ^ min (x2786).toNat 64))
    let x2788 : Int := (IntKind.wrap .u64 (v.1.1 + x2787))
    (F109_0 x2788).bind fun r2789 =>
    (F103_0 (v.2.2, r2789)).bind fun r2790 =>
    bif (!r2790) then
      let x2791 : Int := (IntKind.wrap .i64 (v.1.2 - (1 : Int)))
      K ((x2788, x2791), v.2)
    else
      let x2792 : Int := (IntKind.wrap .i64 (v.1.2 - (1 : Int)))
      K ((v.1.1, x2792), v.2)
  else
    some (v.1.1)

def E100_0 (K : (((Int × Int) × Bool × Int × Int × Int × Int) → Option Int)) (v : Bool × Int × Int × Int × Int) : Option Int :=
  (F108_0 v).bind fun r2785 =>
  bif (decide (r2785 ≤ (0 : Int))) then
    some (0 : Int)
  else
    K (((0 : Int), (63 : Int)), v)

def K100_0 : Nat → (((Int × Int) × Bool × Int × Int × Int × Int) → Option Int)
  | 0 => (fun _ => none)
  | n + 1 => (B100_0_5 (K100_0 n))
def fuel100_0 (v : Bool × Int × Int × Int × Int) : Nat := 1000
def F100_0 (v : Bool × Int × Int × Int × Int) : Option Int := E100_0 (K100_0 (fuel100_0 v)) v
noncomputable def k100_0 : List (Known Tryz.prog E) := [Known.of envOk [9] [(.agg [.keep, .keep, .keep, .keep, .keep])] v108_0 F108_0 w108_0 ok108_0, Known.of envOk [1] [.keep] v109_0 F109_0 w109_0 ok109_0, Known.of envOk [9, 9] [(.agg [.keep, .keep, .keep, .keep]), (.agg [.keep, .keep, .keep, .keep])] v103_0 F103_0 w103_0 ok103_0]
def s100_0_5 : List (Nat × Pat) := [(1, (.ptr 0 0 154 [.keep, .keep, .keep, .keep, .keep])), (3, .keep), (4, .keep)]
noncomputable def L100_0 (n id : Nat) (st : St G) : Option Int := match Nat.beq id 5 with | true => cutK Tryz.prog s100_0_5 [] c100_0_5.dec (K100_0 n) st | false => none
set_option maxRecDepth 100000 in
theorem e100_0 (n : Nat) (v : Bool × Int × Int × Int × Int) : ev Tryz.prog E (oracle k100_0) Tryz.f100.ntmps (fun x => mem x [5]) (L100_0 n) (finF Tryz.prog E Tryz.f100.results.toList [[]] w100_0.alts) 4000 [.code (Tryz.f100.body.getD .skip)] (argSt (v100_0.enc v)) = E100_0 (K100_0 n) v := by kernel_rfl
set_option maxRecDepth 100000 in
theorem b100_0_5 (n : Nat) (v : (Int × Int) × Bool × Int × Int × Int × Int) : evCut Tryz.prog E (oracle k100_0) false 100 Tryz.f100.ntmps (fun x => mem x [5]) (L100_0 n) (finF Tryz.prog E Tryz.f100.results.toList [[]] w100_0.alts) 4000 (todoAt (Tryz.f100.body.getD .skip) 5) (cutSt s100_0_5 (c100_0_5.enc v)) = B100_0_5 (K100_0 n) v := by kernel_rfl
theorem ok100_0 : FnOk Tryz.prog E 100 v100_0.enc F100_0 w100_0.enc :=
  fn_known (fn := Tryz.f100) (c := (Tryz.f100.body.getD .skip)) Tryz.func100 (by kernel_rfl) rfl envOk (oracle_ok k100_0) mixed v100_0 F100_0 w100_0 [] [[]] (by kernel_rfl) [5] 4000 L100_0 (by kernel_rfl)
    (List.forall_mem_cons.2 ⟨⟨_, [], s100_0_5, c100_0_5.dec, c100_0_5.enc, fun n => (K100_0 n), c100_0_5.ok, fun _ _ => rfl, fun _ => rfl, by kernel_rfl, fun n v _ h => (b100_0_5 n v).trans h⟩, fun _ h => (nomatch h)⟩) (fun v _ h => ⟨fuel100_0 v, (e100_0 _ v).trans h⟩) (fun _ => by kernel_rfl) (fun _ => by kernel_rfl) (fun _ _ => by kernel_rfl)
/- chicane/chicaneref03.Len4 -/
abbrev A95_0 : Type := (Int × Int × Int × Int) × Bool
abbrev R95_0 : Type := Int × Bool
def v95_0 : Pk G ((Int × Int × Int × Int) × Bool) := (pk (Sh.snd (Sh.cons (Sh.ptr 0 0) (Sh.cons (Sh.int .i64) (Sh.cons (Sh.int .i64) (Sh.cons (Sh.int .i64) (Sh.fst (Sh.cons (Sh.int .i64) Sh.nil))))))) (Sh.fst (Sh.hfix 0 49 (Sh.fst (Sh.cons Sh.bool Sh.nil)) Sh.hnil)))
def w95_0 : Wk G (Int × Bool) := (Wk.one [.keep] (pk (Sh.fst (Sh.cons (Sh.int .i64) Sh.nil)) (Sh.fst (Sh.hfix 0 49 (Sh.fst (Sh.cons Sh.bool Sh.nil)) Sh.hnil))))
def F95_0 (v : (Int × Int × Int × Int) × Bool) : Option (Int × Bool) :=
  (F99_0 (v.1.1, v.1.1)).bind fun r2820 =>
  (F99_0 (v.1.2.1, v.1.2.1)).bind fun r2821 =>
  (F98_0 (r2820, r2821)).bind fun r2822 =>
  bif r2822.2 then
    (F99_0 (v.1.2.2.1, v.1.2.2.1)).bind fun r2823 =>
    (F98_0 (r2822.1, r2823)).bind fun r2824 =>
    bif r2824.2 then
      (F99_0 (v.1.2.2.2, v.1.2.2.2)).bind fun r2825 =>
      (F98_0 (r2824.1, r2825)).bind fun r2826 =>
      bif r2826.2 then
        (F100_0 r2826.1).bind fun r2827 =>
        bif (!r2826.2) then
          some ((9223372036854775807 : Int), true)
        else
          bif (decide (r2827 > (9223372036854775807 : Int))) then
            some ((9223372036854775807 : Int), true)
          else
            let x2828 : Int := (IntKind.wrap .i64 r2827)
            some (x2828, v.2)
      else
        bif (!r2826.2) then
          some ((9223372036854775807 : Int), true)
        else
          some ((0 : Int), v.2)
    else
      bif r2824.2 then
        (F100_0 r2824.1).bind fun r2829 =>
        bif (!r2824.2) then
          some ((9223372036854775807 : Int), true)
        else
          bif (decide (r2829 > (9223372036854775807 : Int))) then
            some ((9223372036854775807 : Int), true)
          else
            let x2830 : Int := (IntKind.wrap .i64 r2829)
            some (x2830, v.2)
      else
        bif (!r2824.2) then
          some ((9223372036854775807 : Int), true)
        else
          some ((0 : Int), v.2)
  else
    bif r2822.2 then
      (F99_0 (v.1.2.2.2, v.1.2.2.2)).bind fun r2831 =>
      (F98_0 (r2822.1, r2831)).bind fun r2832 =>
      bif r2832.2 then
        (F100_0 r2832.1).bind fun r2833 =>
        bif (!r2832.2) then
          some ((9223372036854775807 : Int), true)
        else
          bif (decide (r2833 > (9223372036854775807 : Int))) then
            some ((9223372036854775807 : Int), true)
          else
            let x2834 : Int := (IntKind.wrap .i64 r2833)
            some (x2834, v.2)
      else
        bif (!r2832.2) then
          some ((9223372036854775807 : Int), true)
        else
          some ((0 : Int), v.2)
    else
      bif r2822.2 then
        (F100_0 r2822.1).bind fun r2835 =>
        bif (!r2822.2) then
          some ((9223372036854775807 : Int), true)
        else
          bif (decide (r2835 > (9223372036854775807 : Int))) then
            some ((9223372036854775807 : Int), true)
          else
            let x2836 : Int := (IntKind.wrap .i64 r2835)
            some (x2836, v.2)
      else
        bif (!r2822.2) then
          some ((9223372036854775807 : Int), true)
        else
          some ((0 : Int), v.2)

noncomputable def k95_0 : List (Known Tryz.prog E) := [Known.of envOk [1, 1] [.keep, .keep] v99_0 F99_0 w99_0 ok99_0, Known.of envOk [9, 9] [(.agg [.keep, .keep, .keep, .keep, .keep]), (.agg [.keep, .keep, .keep, .keep, .keep])] v98_0 F98_0 w98_0 ok98_0, Known.of envOk [9] [(.agg [.keep, .keep, .keep, .keep, .keep])] v100_0 F100_0 w100_0 ok100_0]
noncomputable def L95_0 (n id : Nat) (st : St G) : Option (Int × Bool) := none
set_option maxRecDepth 100000 in
theorem e95_0 (n : Nat) (v : (Int × Int × Int × Int) × Bool) : ev Tryz.prog E (oracle k95_0) Tryz.f95.ntmps (fun x => mem x []) (L95_0 n) (finF Tryz.prog E Tryz.f95.results.toList [[(.ptr 0 0 49 [.keep])]] w95_0.alts) 4000 [.code (Tryz.f95.body.getD .skip)] (argSt (v95_0.enc v)) = F95_0 v := by kernel_rfl
theorem ok95_0 : FnOk Tryz.prog E 95 v95_0.enc F95_0 w95_0.enc :=
  fn_known (fn := Tryz.f95) (c := (Tryz.f95.body.getD .skip)) Tryz.func95 (by kernel_rfl) rfl envOk (oracle_ok k95_0) mixed v95_0 F95_0 w95_0 [(.ptr 0 0 49 [.keep])] [[(.ptr 0 0 49 [.keep])]] (by kernel_rfl) [] 4000 L95_0 (by kernel_rfl)
    (fun _ h => nomatch h) (fun v _ h => ⟨0, (e95_0 _ v).trans h⟩) (fun _ => by kernel_rfl) (fun _ => by kernel_rfl) (fun _ _ => by kernel_rfl)
/- chicane/chicaneref03.Len3 -/
abbrev A92_0 : Type := (Int × Int × Int) × Bool
abbrev R92_0 : Type := Int × Bool
def v92_0 : Pk G ((Int × Int × Int) × Bool) := (pk (Sh.snd (Sh.cons (Sh.ptr 0 0) (Sh.cons (Sh.int .i64) (Sh.cons (Sh.int .i64) (Sh.fst (Sh.cons (Sh.int .i64) Sh.nil)))))) (Sh.fst (Sh.hfix 0 49 (Sh.fst (Sh.cons Sh.bool Sh.nil)) Sh.hnil)))
def w92_0 : Wk G (Int × Bool) := (Wk.one [.keep] (pk (Sh.fst (Sh.cons (Sh.int .i64) Sh.nil)) (Sh.fst (Sh.hfix 0 49 (Sh.fst (Sh.cons Sh.bool Sh.nil)) Sh.hnil))))
def F92_0 (v : (Int × Int × Int) × Bool) : Option (Int × Bool) :=
  (F95_0 (((0 : Int), v.1), v.2)).bind fun r2839 =>
  some (r2839)

noncomputable def k92_0 : List (Known Tryz.prog E) := [Known.of envOk [5, 1, 1, 1, 1] [(.ptr 0 0 49 [.keep]), .keep, .keep, .keep, .keep] v95_0 F95_0 w95_0 ok95_0]
noncomputable def L92_0 (n id : Nat) (st : St G) : Option (Int × Bool) := none
set_option maxRecDepth 100000 in
theorem e92_0 (n : Nat) (v : (Int × Int × Int) × Bool) : ev Tryz.prog E (oracle k92_0) Tryz.f92.ntmps (fun x => mem x []) (L92_0 n) (finF Tryz.prog E Tryz.f92.results.toList [[(.ptr 0 0 49 [.keep])]] w92_0.alts) 4000 [.code (Tryz.f92.body.getD .skip)] (argSt (v92_0.enc v)) = F92_0 v := by kernel_rfl
theorem ok92_0 : FnOk Tryz.prog E 92 v92_0.enc F92_0 w92_0.enc :=
  fn_known (fn := Tryz.f92) (c := (Tryz.f92.body.getD .skip)) Tryz.func92 (by kernel_rfl) rfl envOk (oracle_ok k92_0) mixed v92_0 F92_0 w92_0 [(.ptr 0 0 49 [.keep])] [[(.ptr 0 0 49 [.keep])]] (by kernel_rfl) [] 4000 L92_0 (by kernel_rfl)
    (fun _ h => nomatch h) (fun v _ h => ⟨0, (e92_0 _ v).trans h⟩) (fun _ => by kernel_rfl) (fun _ => by kernel_rfl) (fun _ _ => by kernel_rfl)
/- chicane/chicaneref03.Unit3 -/
abbrev A84_0 : Type := (Int × Int × Int) × Bool
abbrev R84_0 : Type := (Int × Int × Int × Bool) × Bool
def v84_0 : Pk G ((Int × Int × Int) × Bool) := (pk (Sh.snd (Sh.cons (Sh.ptr 0 0) (Sh.cons (Sh.int .i64) (Sh.cons (Sh.int .i64) (Sh.fst (Sh.cons (Sh.int .i64) Sh.nil)))))) (Sh.fst (Sh.hfix 0 49 (Sh.fst (Sh.cons Sh.bool Sh.nil)) Sh.hnil)))
def w84_0 : Wk G ((Int × Int × Int × Bool) × Bool) := (Wk.one [.keep, .keep, .keep, .keep] (pk (Sh.cons (Sh.int .i64) (Sh.cons (Sh.int .i64) (Sh.cons (Sh.int .i64) (Sh.fst (Sh.cons Sh.bool Sh.nil))))) (Sh.fst (Sh.hfix 0 49 (Sh.fst (Sh.cons Sh.bool Sh.nil)) Sh.hnil))))
def F84_0 (v : (Int × Int × Int) × Bool) : Option ((Int × Int × Int × Bool) × Bool) :=
  (F92_0 v).bind fun r2848 =>
  bif (r2848.1 == (0 : Int)) then
    some (((0 : Int), ((0 : Int), ((0 : Int), false))), r2848.2)
  else
    (F58_0 ((v.1.1, r2848.1), r2848.2)).bind fun r2849 =>
    (F58_0 ((v.1.2.1, r2848.1), r2849.2)).bind fun r2850 =>
    (F58_0 ((v.1.2.2, r2848.1), r2850.2)).bind fun r2851 =>
    some ((r2849.1, (r2850.1, (r2851.1, true))), r2851.2)

noncomputable def k84_0 : List (Known Tryz.prog E) := [Known.of envOk [5, 1, 1, 1] [(.ptr 0 0 49 [.keep]), .keep, .keep, .keep] v92_0 F92_0 w92_0 ok92_0, Known.of envOk [5, 1, 1] [(.ptr 0 0 49 [.keep]), .keep, .keep] v58_0 F58_0 w58_0 ok58_0]
noncomputable def L84_0 (n id : Nat) (st : St G) : Option ((Int × Int × Int × Bool) × Bool) := none
set_option maxRecDepth 100000 in
theorem e84_0 (n : Nat) (v : (Int × Int × Int) × Bool) : ev Tryz.prog E (oracle k84_0) Tryz.f84.ntmps (fun x => mem x []) (L84_0 n) (finF Tryz.prog E Tryz.f84.results.toList [[(.ptr 0 0 49 [.keep])]] w84_0.alts) 4000 [.code (Tryz.f84.body.getD .skip)] (argSt (v84_0.enc v)) = F84_0 v := by kernel_rfl
theorem ok84_0 : FnOk Tryz.prog E 84 v84_0.enc F84_0 w84_0.enc :=
  fn_known (fn := Tryz.f84) (c := (Tryz.f84.body.getD .skip)) Tryz.func84 (by kernel_rfl) rfl envOk (oracle_ok k84_0) mixed v84_0 F84_0 w84_0 [(.ptr 0 0 49 [.keep])] [[(.ptr 0 0 49 [.keep])]] (by kernel_rfl) [] 4000 L84_0 (by kernel_rfl)
    (fun _ h => nomatch h) (fun v _ h => ⟨0, (e84_0 _ v).trans h⟩) (fun _ => by kernel_rfl) (fun _ => by kernel_rfl) (fun _ _ => by kernel_rfl)
/- chicane/chicaneref05.Unit -/
abbrev A62_0 : Type := (Int × Int × Int) × Bool
abbrev R62_0 : Type := ((Int × Int × Int) × Bool) × Bool
def v62_0 : Pk G ((Int × Int × Int) × Bool) := (pk (Sh.snd (Sh.cons (Sh.ptr 0 0) (Sh.fst (Sh.cons (Sh.agg (Sh.cons (Sh.int .i64) (Sh.cons (Sh.int .i64) (Sh.fst (Sh.cons (Sh.int .i64) Sh.nil))))) Sh.nil)))) (Sh.fst (Sh.hfix 0 49 (Sh.fst (Sh.cons Sh.bool Sh.nil)) Sh.hnil)))
def w62_0 : Wk G (((Int × Int × Int) × Bool) × Bool) := (Wk.one [(.agg [.keep, .keep, .keep]), .keep] (pk (Sh.cons (Sh.agg (Sh.cons (Sh.int .i64) (Sh.cons (Sh.int .i64) (Sh.fst (Sh.cons (Sh.int .i64) Sh.nil))))) (Sh.fst (Sh.cons Sh.bool Sh.nil))) (Sh.fst (Sh.hfix 0 49 (Sh.fst (Sh.cons Sh.bool Sh.nil)) Sh.hnil))))
def F62_0 (v : (Int × Int × Int) × Bool) : Option (((Int × Int × Int) × Bool) × Bool) :=
  (F84_0 v).bind fun r2854 =>
  some (((r2854.1.1, (r2854.1.2.1, r2854.1.2.2.1)), r2854.1.2.2.2), r2854.2)

noncomputable def k62_0 : List (Known Tryz.prog E) := [Known.of envOk [5, 1, 1, 1] [(.ptr 0 0 49 [.keep]), .keep, .keep, .keep] v84_0 F84_0 w84_0 ok84_0]
noncomputable def L62_0 (n id : Nat) (st : St G) : Option (((Int × Int × Int) × Bool) × Bool) := none
set_option maxRecDepth 100000 in
theorem e62_0 (n : Nat) (v : (Int × Int × Int) × Bool) : ev Tryz.prog E (oracle k62_0) Tryz.f62.ntmps (fun x => mem x []) (L62_0 n) (finF Tryz.prog E Tryz.f62.results.toList [[(.ptr 0 0 49 [.keep])]] w62_0.alts) 4000 [.code (Tryz.f62.body.getD .skip)] (argSt (v62_0.enc v)) = F62_0 v := by kernel_rfl
theorem ok62_0 : FnOk Tryz.prog E 62 v62_0.enc F62_0 w62_0.enc :=
  fn_known (fn := Tryz.f62) (c := (Tryz.f62.body.getD .skip)) Tryz.func62 (by kernel_rfl) rfl envOk (oracle_ok k62_0) mixed v62_0 F62_0 w62_0 [(.ptr 0 0 49 [.keep])] [[(.ptr 0 0 49 [.keep])]] (by kernel_rfl) [] 4000 L62_0 (by kernel_rfl)
    (fun _ h => nomatch h) (fun v _ h => ⟨0, (e62_0 _ v).trans h⟩) (fun _ => by kernel_rfl) (fun _ => by kernel_rfl) (fun _ _ => by kernel_rfl)
/- chicane/chicaneref12.Up -/
abbrev A29_0 : Type := (Int × Int) × Bool
abbrev R29_0 : Type := (Int × Int × Int) × Bool
def v29_0 : Pk G ((Int × Int) × Bool) := (pk (Sh.snd (Sh.cons (Sh.ptr 0 0) (Sh.cons (Sh.int .i64) (Sh.fst (Sh.cons (Sh.int .i64) Sh.nil))))) (Sh.fst (Sh.hfix 0 49 (Sh.fst (Sh.cons Sh.bool Sh.nil)) Sh.hnil)))
def w29_0 : Wk G ((Int × Int × Int) × Bool) := (Wk.one [(.agg [.keep, .keep, .keep])] (pk (Sh.fst (Sh.cons (Sh.agg (Sh.cons (Sh.int .i64) (Sh.cons (Sh.int .i64) (Sh.fst (Sh.cons (Sh.int .i64) Sh.nil))))) Sh.nil)) (Sh.fst (Sh.hfix 0 49 (Sh.fst (Sh.cons Sh.bool Sh.nil)) Sh.hnil))))
def F29_0 (v : (Int × Int) × Bool) : Option ((Int × Int × Int) × Bool) :=
  (F59_0 (v.1.1, v.2)).bind fun r2859 =>
  (F59_0 (v.1.2, r2859.2)).bind fun r2860 =>
  (F62_0 ((r2859.1, (r2860.1, (4294967296 : Int))), r2860.2)).bind fun r2861 =>
  some (r2861.1.1, r2861.2)

noncomputable def k29_0 : List (Known Tryz.prog E) := [Known.of envOk [5, 1] [(.ptr 0 0 49 [.keep]), .keep] v59_0 F59_0 w59_0 ok59_0, Known.of envOk [5, 9] [(.ptr 0 0 49 [.keep]), (.agg [.keep, .keep, .keep])] v62_0 F62_0 w62_0 ok62_0]
noncomputable def L29_0 (n id : Nat) (st : St G) : Option ((Int × Int × Int) × Bool) := none
set_option maxRecDepth 100000 in
theorem e29_0 (n : Nat) (v : (Int × Int) × Bool) : ev Tryz.prog E (oracle k29_0) Tryz.f29.ntmps (fun x => mem x []) (L29_0 n) (finF Tryz.prog E Tryz.f29.results.toList [[(.ptr 0 0 49 [.keep])]] w29_0.alts) 4000 [.code (Tryz.f29.body.getD .skip)] (argSt (v29_0.enc v)) = F29_0 v := by kernel_rfl
theorem ok29_0 : FnOk Tryz.prog E 29 v29_0.enc F29_0 w29_0.enc :=
  fn_known (fn := Tryz.f29) (c := (Tryz.f29.body.getD .skip)) Tryz.func29 (by kernel_rfl) rfl envOk (oracle_ok k29_0) mixed v29_0 F29_0 w29_0 [(.ptr 0 0 49 [.keep])] [[(.ptr 0 0 49 [.keep])]] (by kernel_rfl) [] 4000 L29_0 (by kernel_rfl)
    (fun _ h => nomatch h) (fun v _ h => ⟨0, (e29_0 _ v).trans h⟩) (fun _ => by kernel_rfl) (fun _ => by kernel_rfl) (fun _ _ => by kernel_rfl)
/- chicane/chicaneref13.Cast -/
abbrev A8_0 : Type := ((Int × Int × Int × Int × Int × Int × List Int × List Int × (List (Int × Int × Bool)) × (List (Int × Int)) × (List (List (Int × Int))) × (List (Int × Int × Int × Int × Bool)) × Int × Int × Int × Int) × (Int × Int × Int) × (Int × Int × Int) × Int) × Bool
abbrev R8_0 : Type := ((Int × Int × Int × Int × Int) × Bool) × Bool
def v8_0 : Pk G (((Int × Int × Int × Int × Int × Int × List Int × List Int × (List (Int × Int × Bool)) × (List (Int × Int)) × (List (List (Int × Int))) × (List (Int × Int × Int × Int × Bool)) × Int × Int × Int × Int) × (Int × Int × Int) × (Int × Int × Int) × Int) × Bool) := (pk (Sh.snd (Sh.cons (Sh.ptr 0 0) (Sh.cons (Sh.agg (Sh.cons (Sh.int .i64) (Sh.cons (Sh.int .i64) (Sh.cons (Sh.int .i64) (Sh.cons (Sh.int .i64) (Sh.cons (Sh.int .i64) (Sh.cons (Sh.int .i64) (Sh.cons (Sh.ros 22) (Sh.cons (Sh.ros 3) (Sh.cons (Sh.ros 64) (Sh.cons (Sh.ros 24) (Sh.cons (Sh.ros 28) (Sh.cons (Sh.ros 187) (Sh.cons (Sh.int .i64) (Sh.cons (Sh.int .i64) (Sh.cons (Sh.int .u32) (Sh.fst (Sh.cons (Sh.int .i64) Sh.nil)))))))))))))))))) (Sh.cons (Sh.agg (Sh.cons (Sh.int .i64) (Sh.cons (Sh.int .i64) (Sh.fst (Sh.cons (Sh.int .i64) Sh.nil))))) (Sh.cons (Sh.agg (Sh.cons (Sh.int .i64) (Sh.cons (Sh.int .i64) (Sh.fst (Sh.cons (Sh.int .i64) Sh.nil))))) (Sh.fst (Sh.cons (Sh.int .i64) Sh.nil))))))) (Sh.fst (Sh.hfix 0 49 (Sh.fst (Sh.cons Sh.bool Sh.nil)) Sh.hnil)))
def w8_0 : Wk G (((Int × Int × Int × Int × Int) × Bool) × Bool) := (Wk.one [(.agg [.keep, .keep, .keep, .keep, .keep]), .keep] (pk (Sh.cons (Sh.agg (Sh.cons (Sh.int .i64) (Sh.cons (Sh.int .i64) (Sh.cons (Sh.int .i64) (Sh.cons (Sh.int .i64) (Sh.fst (Sh.cons (Sh.int .i64) Sh.nil))))))) (Sh.fst (Sh.cons Sh.bool Sh.nil))) (Sh.fst (Sh.hfix 0 49 (Sh.fst (Sh.cons Sh.bool Sh.nil)) Sh.hnil))))
def c8_0_7 : Pk G ((Int × Bool × Int) × Bool × (Int × Int × Int × Int × Int) × (Int × Int × Int × Int × Int) × (Int × Int × Int) × (Int × Int × Int) × (Int × Int × Int × Int × Int × Int × List Int × List Int × (List (Int × Int × Bool)) × (List (Int × Int)) × (List (List (Int × Int))) × (List (Int × Int × Int × Int × Bool)) × Int × Int × Int × Int) × Bool) := (pk (Sh.snd (Sh.cons (Sh.ptr 0 0) (Sh.cons (Sh.int .i64) (Sh.snd (Sh.cons (Sh.ptr 1 0) (Sh.snd (Sh.cons (Sh.ptr 2 0) (Sh.snd (Sh.cons (Sh.ptr 3 0) (Sh.snd (Sh.cons (Sh.ptr 4 0) (Sh.snd (Sh.cons (Sh.ptr 5 0) (Sh.cons Sh.bool (Sh.snd (Sh.cons (Sh.ptr 6 0) (Sh.fst (Sh.cons (Sh.int .i64) Sh.nil)))))))))))))))))) (Sh.hfix 6 49 (Sh.fst (Sh.cons Sh.bool Sh.nil)) (Sh.hfix 5 51 (Sh.cons (Sh.int .i64) (Sh.cons (Sh.int .i64) (Sh.cons (Sh.int .i64) (Sh.cons (Sh.int .i64) (Sh.fst (Sh.cons (Sh.int .i64) Sh.nil)))))) (Sh.hfix 4 51 (Sh.cons (Sh.int .i64) (Sh.cons (Sh.int .i64) (Sh.cons (Sh.int .i64) (Sh.cons (Sh.int .i64) (Sh.fst (Sh.cons (Sh.int .i64) Sh.nil)))))) (Sh.hfix 3 36 (Sh.cons (Sh.int .i64) (Sh.cons (Sh.int .i64) (Sh.fst (Sh.cons (Sh.int .i64) Sh.nil)))) (Sh.hfix 2 36 (Sh.cons (Sh.int .i64) (Sh.cons (Sh.int .i64) (Sh.fst (Sh.cons (Sh.int .i64) Sh.nil)))) (Sh.hfix 1 34 (Sh.cons (Sh.int .i64) (Sh.cons (Sh.int .i64) (Sh.cons (Sh.int .i64) (Sh.cons (Sh.int .i64) (Sh.cons (Sh.int .i64) (Sh.cons (Sh.int .i64) (Sh.cons (Sh.ros 22) (Sh.cons (Sh.ros 3) (Sh.cons (Sh.ros 64) (Sh.cons (Sh.ros 24) (Sh.cons (Sh.ros 28) (Sh.cons (Sh.ros 187) (Sh.cons (Sh.int .i64) (Sh.cons (Sh.int .i64) (Sh.cons (Sh.int .u32) (Sh.fst (Sh.cons (Sh.int .i64) Sh.nil))))))))))))))))) (Sh.fst (Sh.hfix 0 49 (Sh.fst (Sh.cons Sh.bool Sh.nil)) Sh.hnil)))))))))
def B8_0_7 (K : (((Int × Bool × Int) × Bool × (Int × Int × Int × Int × Int) × (Int × Int × Int × Int × Int) × (Int × Int × Int) × (Int × Int × Int) × (Int × Int × Int × Int × Int × Int × List Int × List Int × (List (Int × Int × Bool)) × (List (Int × Int)) × (List (List (Int × Int))) × (List (Int × Int × Int × Int × Bool)) × Int × Int × Int × Int) × Bool) → Option (((Int × Int × Int × Int × Int) × Bool) × Bool))) (v : (Int × Bool × Int) × Bool × (Int × Int × Int × Int × Int) × (Int × Int × Int × Int × Int) × (Int × Int × Int) × (Int × Int × Int) × (Int × Int × Int × Int × Int × Int × List Int × List Int × (List (Int × Int × Bool)) × (List (Int × Int)) × (List (List (Int × Int))) × (List (Int × Int × Int × Int × Bool)) × Int × Int × Int × Int) × Bool) : Option (((Int × Int × Int × Int × Int) × Bool) × Bool) :=
  let x2903 : Int := (IntKind.wrap .i64 (v.2.2.2.2.2.2.1.2.2.1 * v.2.2.2.2.2.2.1.2.2.2.1))
  let x2904 : Int := (IntKind.wrap .i64 (x2903 * (2 : Int)))
  bif (decide (v.1.2.2 < x2904)) then
    let x2905 : Int := (IntKind.wrap .i64 (Int.tdiv v.1.2.2 (2 : Int)))
    (chk (v.2.2.2.2.2.2.1.2.2.1 != 0)).bind fun _ =>
    let x2906 : Int := (Int.tmod x2905 v.2.2.2.2.2.2.1.2.2.1)
    let x2907 : Int := (IntKind.wrap .i64 (Int.tdiv v.1.2.2 (2 : Int)))
    (chk (v.2.2.2.2.2.2.1.2.2.1 != 0)).bind fun _ =>
    let x2908 : Int := (IntKind.wrap .i64 (Int.tdiv x2907 v.2.2.2.2.2.2.1.2.2.1))
    let x2909 : Int := (Int.tmod v.1.2.2 (2 : Int))
    (F27_0 ((v.2.2.2.2.2.2.1, (x2906, (x2908, ((x2909 == (1 : Int)), (v.2.2.2.2.2.1, (v.2.2.2.2.1, v.1.1)))))), v.2.1)).bind fun r2910 =>
    bif r2910.1.2 then
      bif (!v.1.2.1) then
        let x2911 : Int := (Int.tmod v.1.2.2 (2 : Int))
        (F28_0 ((v.2.2.2.2.2.2.1, (x2906, (x2908, (x2911 == (1 : Int))))), v.2.2.2.2.2.2.2)).bind fun r2912 =>
        (F29_0 r2912).bind fun r2913 =>
        let x2914 : Int := (IntKind.wrap .i64 (x2908 * v.2.2.2.2.2.2.1.2.2.1))
        let x2915 : Int := (IntKind.wrap .i64 (x2914 + x2906))
        (rdx v.2.2.2.2.2.2.1.2.2.2.2.2.2.2.1 x2915).bind fun (x2916 : Int) =>
        let x2917 : Int := (IntKind.wrap .i64 (v.1.2.2 + (1 : Int)))
        K ((v.1.1, (true, x2917)), (r2910.2, ((r2910.1.1, (r2913.1.1, (r2913.1.2.1, (r2913.1.2.2, x2916)))), (v.2.2.2.1, (v.2.2.2.2.1, (v.2.2.2.2.2.1, (v.2.2.2.2.2.2.1, r2913.2)))))))
      else
        bif (decide (r2910.1.1 < v.2.2.1.1)) then
          let x2918 : Int := (Int.tmod v.1.2.2 (2 : Int))
          (F28_0 ((v.2.2.2.2.2.2.1, (x2906, (x2908, (x2918 == (1 : Int))))), v.2.2.2.2.2.2.2)).bind fun r2919 =>
          (F29_0 r2919).bind fun r2920 =>
          let x2921 : Int := (IntKind.wrap .i64 (x2908 * v.2.2.2.2.2.2.1.2.2.1))
          let x2922 : Int := (IntKind.wrap .i64 (x2921 + x2906))
          (rdx v.2.2.2.2.2.2.1.2.2.2.2.2.2.2.1 x2922).bind fun (x2923 : Int) =>
          let x2924 : Int := (IntKind.wrap .i64 (v.1.2.2 + (1 : Int)))
          K ((v.1.1, (true, x2924)), (r2910.2, ((r2910.1.1, (r2920.1.1, (r2920.1.2.1, (r2920.1.2.2, x2923)))), (v.2.2.2.1, (v.2.2.2.2.1, (v.2.2.2.2.2.1, (v.2.2.2.2.2.2.1, r2920.2)))))))
        else
          let x2925 : Int := (IntKind.wrap .i64 (v.1.2.2 + (1 : Int)))
          K ((v.1.1, (v.1.2.1, x2925)), (r2910.2, v.2.2))
    else
      let x2926 : Int := (IntKind.wrap .i64 (v.1.2.2 + (1 : Int)))
      K ((v.1.1, (v.1.2.1, x2926)), (r2910.2, v.2.2))
  else
    some ((v.2.2.1, v.1.2.1), v.2.2.2.2.2.2.2)

def E8_0 (K : (((Int × Bool × Int) × Bool × (Int × Int × Int × Int × Int) × (Int × Int × Int × Int × Int) × (Int × Int × Int) × (Int × Int × Int) × (Int × Int × Int × Int × Int × Int × List Int × List Int × (List (Int × Int × Bool)) × (List (Int × Int)) × (List (List (Int × Int))) × (List (Int × Int × Int × Int × Bool)) × Int × Int × Int × Int) × Bool) → Option (((Int × Int × Int × Int × Int) × Bool) × Bool))) (v : ((Int × Int × Int × Int × Int × Int × List Int × List Int × (List (Int × Int × Bool)) × (List (Int × Int)) × (List (List (Int × Int))) × (List (Int × Int × Int × Int × Bool)) × Int × Int × Int × Int) × (Int × Int × Int) × (Int × Int × Int) × Int) × Bool) : Option (((Int × Int × Int × Int × Int) × Bool) × Bool) :=
  (F26_0 v.1.2).bind fun r2902 =>
  bif (!r2902) then
    some ((((0 : Int), ((0 : Int), ((0 : Int), ((0 : Int), (0 : Int))))), false), v.2)
  else
    K ((v.1.2.2.2, (false, (0 : Int))), (false, (((0 : Int), ((0 : Int), ((0 : Int), ((0 : Int), (0 : Int))))), (((0 : Int), ((0 : Int), ((0 : Int), ((0 : Int), (0 : Int))))), (v.1.2.2.1, (v.1.2.1, (v.1.1, v.2)))))))

def K8_0 : Nat → (((Int × Bool × Int) × Bool × (Int × Int × Int × Int × Int) × (Int × Int × Int × Int × Int) × (Int × Int × Int) × (Int × Int × Int) × (Int × Int × Int × Int × Int × Int × List Int × List Int × (List (Int × Int × Bool)) × (List (Int × Int)) × (List (List (Int × Int))) × (List (Int × Int × Int × Int × Bool)) × Int × Int × Int × Int) × Bool) → Option (((Int × Int × Int × Int × Int) × Bool) × Bool))
  | 0 => (fun _ => none)
  | n + 1 => (B8_0_7 (K8_0 n))
def fuel8_0 (v : ((Int × Int × Int × Int × Int × Int × List Int × List Int × (List (Int × Int × Bool)) × (List (Int × Int)) × (List (List (Int × Int))) × (List (Int × Int × Int × Int × Bool)) × Int × Int × Int × Int) × (Int × Int × Int) × (Int × Int × Int) × Int) × Bool) : Nat := 1000
def F8_0 (v : ((Int × Int × Int × Int × Int × Int × List Int × List Int × (List (Int × Int × Bool)) × (List (Int × Int)) × (List (List (Int × Int))) × (List (Int × Int × Int × Int × Bool)) × Int × Int × Int × Int) × (Int × Int × Int) × (Int × Int × Int) × Int) × Bool) : Option (((Int × Int × Int × Int × Int) × Bool) × Bool) := E8_0 (K8_0 (fuel8_0 v)) v
noncomputable def k8_0 : List (Known Tryz.prog E) := [Known.of envOk [9, 9, 1] [(.agg [.keep, .keep, .keep]), (.agg [.keep, .keep, .keep]), .keep] v26_0 F26_0 w26_0 ok26_0, Known.of envOk [5, 9, 1, 1, 2, 9, 9, 1] [(.ptr 0 0 49 [.keep]), (.agg [.keep, .keep, .keep, .keep, .keep, .keep, (.ros 22), (.ros 3), (.ros 64), (.ros 24), (.ros 28), (.ros 187), .keep, .keep, .keep, .keep]), .keep, .keep, .keep, (.agg [.keep, .keep, .keep]), (.agg [.keep, .keep, .keep]), .keep] v27_0 F27_0 w27_0 ok27_0, Known.of envOk [5, 9, 1, 1, 2] [(.ptr 0 0 49 [.keep]), (.agg [.keep, .keep, .keep, .keep, .keep, .keep, (.ros 22), (.ros 3), (.ros 64), (.ros 24), (.ros 28), (.ros 187), .keep, .keep, .keep, .keep]), .keep, .keep, .keep] v28_0 F28_0 w28_0 ok28_0, Known.of envOk [5, 1, 1] [(.ptr 0 0 49 [.keep]), .keep, .keep] v29_0 F29_0 w29_0 ok29_0]
def s8_0_7 : List (Nat × Pat) := [(0, (.ptr 0 0 49 [])), (4, .keep), (6, (.ptr 1 0 34 [.keep, .keep, .keep, .keep, .keep, .keep, (.ros 22), (.ros 3), (.ros 64), (.ros 24), (.ros 28), (.ros 187), .keep, .keep, .keep, .keep])), (7, (.ptr 2 0 36 [.keep, .keep, .keep])), (8, (.ptr 3 0 36 [.keep, .keep, .keep])), (10, (.ptr 4 0 51 [.keep, .keep, .keep, .keep, .keep])), (12, (.ptr 5 0 51 [.keep, .keep, .keep, .keep, .keep])), (13, .keep), (14, (.ptr 6 0 49 [.keep])), (15, .keep)]
noncomputable def L8_0 (n id : Nat) (st : St G) : Option (((Int × Int × Int × Int × Int) × Bool) × Bool) := match Nat.beq id 7 with | true => cutK Tryz.prog s8_0_7 [(.ptr 0 0 49 [.keep])] c8_0_7.dec (K8_0 n) st | false => none
set_option maxRecDepth 100000 in
theorem e8_0 (n : Nat) (v : ((Int × Int × Int × Int × Int × Int × List Int × List Int × (List (Int × Int × Bool)) × (List (Int × Int)) × (List (List (Int × Int))) × (List (Int × Int × Int × Int × Bool)) × Int × Int × Int × Int) × (Int × Int × Int) × (Int × Int × Int) × Int) × Bool) : ev Tryz.prog E (oracle k8_0) Tryz.f8.ntmps (fun x => mem x [7]) (L8_0 n) (finF Tryz.prog E Tryz.f8.results.toList [[(.ptr 0 0 49 [.keep])]] w8_0.alts) 4000 [.code (Tryz.f8.body.getD .skip)] (argSt (v8_0.enc v)) = E8_0 (K8_0 n) v := by kernel_rfl
set_option maxRecDepth 100000 in
theorem b8_0_7 (n : Nat) (v : (Int × Bool × Int) × Bool × (Int × Int × Int × Int × Int) × (Int × Int × Int × Int × Int) × (Int × Int × Int) × (Int × Int × Int) × (Int × Int × Int × Int × Int × Int × List Int × List Int × (List (Int × Int × Bool)) × (List (Int × Int)) × (List (List (Int × Int))) × (List (Int × Int × Int × Int × Bool)) × Int × Int × Int × Int) × Bool) : evCut Tryz.prog E (oracle k8_0) false 8 Tryz.f8.ntmps (fun x => mem x [7]) (L8_0 n) (finF Tryz.prog E Tryz.f8.results.toList [[(.ptr 0 0 49 [.keep])]] w8_0.alts) 4000 (todoAt (Tryz.f8.body.getD .skip) 7) (cutSt s8_0_7 (c8_0_7.enc v)) = B8_0_7 (K8_0 n) v := by kernel_rfl
theorem ok8_0 : FnOk Tryz.prog E 8 v8_0.enc F8_0 w8_0.enc :=
  fn_known (fn := Tryz.f8) (c := (Tryz.f8.body.getD .skip)) Tryz.func8 (by kernel_rfl) rfl envOk (oracle_ok k8_0) mixed v8_0 F8_0 w8_0 [(.ptr 0 0 49 [.keep])] [[(.ptr 0 0 49 [.keep])]] (by kernel_rfl) [7] 4000 L8_0 (by kernel_rfl)
    (List.forall_mem_cons.2 ⟨⟨_, [(.ptr 0 0 49 [.keep])], s8_0_7, c8_0_7.dec, c8_0_7.enc, fun n => (K8_0 n), c8_0_7.ok, fun _ _ => rfl, fun _ => rfl, by kernel_rfl, fun n v _ h => (b8_0_7 n v).trans h⟩, fun _ h => (nomatch h)⟩) (fun v _ h => ⟨fuel8_0 v, (e8_0 _ v).trans h⟩) (fun _ => by kernel_rfl) (fun _ => by kernel_rfl) (fun _ _ => by kernel_rfl)
/- chicane/chicanelaw13.RayCast -/
abbrev A3_0 : Type := (Int × Int × Int × Int × Int × Int × List Int × List Int × (List (Int × Int × Bool)) × (List (Int × Int)) × (List (List (Int × Int))) × (List (Int × Int × Int × Int × Bool)) × Int × Int × Int × Int) × Int × Int × Int × Int × Int × Int × Int
abbrev R3_0 : Type := Bool
def v3_0 : Pk G ((Int × Int × Int × Int × Int × Int × List Int × List Int × (List (Int × Int × Bool)) × (List (Int × Int)) × (List (List (Int × Int))) × (List (Int × Int × Int × Int × Bool)) × Int × Int × Int × Int) × Int × Int × Int × Int × Int × Int × Int) := (Pk.fst (pk (Sh.cons (Sh.agg (Sh.cons (Sh.int .i64) (Sh.cons (Sh.int .i64) (Sh.cons (Sh.int .i64) (Sh.cons (Sh.int .i64) (Sh.cons (Sh.int .i64) (Sh.cons (Sh.int .i64) (Sh.cons (Sh.ros 22) (Sh.cons (Sh.ros 3) (Sh.cons (Sh.ros 64) (Sh.cons (Sh.ros 24) (Sh.cons (Sh.ros 28) (Sh.cons (Sh.ros 187) (Sh.cons (Sh.int .i64) (Sh.cons (Sh.int .i64) (Sh.cons (Sh.int .u32) (Sh.fst (Sh.cons (Sh.int .i64) Sh.nil)))))))))))))))))) (Sh.fst (Sh.cons (Sh.agg (Sh.cons (Sh.int .i64) (Sh.cons (Sh.int .i64) (Sh.cons (Sh.int .i64) (Sh.cons (Sh.int .i64) (Sh.cons (Sh.int .i64) (Sh.cons (Sh.int .i64) (Sh.fst (Sh.cons (Sh.int .i64) Sh.nil))))))))) Sh.nil))) Sh.hnil))
def w3_0 : Wk G Bool := (Wk.one [.keep] (Pk.fst (pk (Sh.fst (Sh.cons Sh.bool Sh.nil)) Sh.hnil)))
def F3_0 (v : (Int × Int × Int × Int × Int × Int × List Int × List Int × (List (Int × Int × Bool)) × (List (Int × Int)) × (List (List (Int × Int))) × (List (Int × Int × Int × Int × Bool)) × Int × Int × Int × Int) × Int × Int × Int × Int × Int × Int × Int) : Option Bool :=
  (F4_0 v.1).bind fun r2947 =>
  bif (!r2947) then
    (F5_0 ()).bind fun r2948 =>
    some (r2948)
  else
    (F6_0 v.1).bind fun r2949 =>
    match r2949 with
    | .inl r2950 =>
      (F7_1 (((v.2.1, (v.2.2.1, v.2.2.2.1)), ((v.2.2.2.2.1, (v.2.2.2.2.2.1, v.2.2.2.2.2.2.1)), v.2.2.2.2.2.2.2)), false)).bind fun r2952 =>
      (F8_0 ((v.1, ((v.2.1, (v.2.2.1, v.2.2.2.1)), ((v.2.2.2.2.1, (v.2.2.2.2.2.1, v.2.2.2.2.2.2.1)), v.2.2.2.2.2.2.2))), false)).bind fun r2953 =>
      let x2954 : Bool := ((r2952.1.1.1 == r2953.1.1.1) && (((r2952.1.1.2.1 == r2953.1.1.2.1) && ((r2952.1.1.2.2.1 == r2953.1.1.2.2.1) && ((r2952.1.1.2.2.2.1 == r2953.1.1.2.2.2.1) && true))) && ((r2952.1.1.2.2.2.2 == r2953.1.1.2.2.2.2) && true)))
      bif x2954 then
        bif (r2952.1.2 == r2953.1.2) then
          bif (r2952.2 == r2953.2) then
            (F5_0 ()).bind fun r2955 =>
            some (r2955)
          else
            some (false)
        else
          some (false)
      else
        some (false)
    | .inr r2951 =>
      (F7_0 (((v.2.1, (v.2.2.1, v.2.2.2.1)), ((v.2.2.2.2.1, (v.2.2.2.2.2.1, v.2.2.2.2.2.2.1)), v.2.2.2.2.2.2.2)), (r2951.2.1, (r2951.2.2.1, (r2951.2.2.2, false))))).bind fun r2956 =>
      (F8_0 ((v.1, ((v.2.1, (v.2.2.1, v.2.2.2.1)), ((v.2.2.2.2.1, (v.2.2.2.2.2.1, v.2.2.2.2.2.2.1)), v.2.2.2.2.2.2.2))), false)).bind fun r2957 =>
      let x2958 : Bool := ((r2956.1.1.1 == r2957.1.1.1) && (((r2956.1.1.2.1 == r2957.1.1.2.1) && ((r2956.1.1.2.2.1 == r2957.1.1.2.2.1) && ((r2956.1.1.2.2.2.1 == r2957.1.1.2.2.2.1) && true))) && ((r2956.1.1.2.2.2.2 == r2957.1.1.2.2.2.2) && true)))
      bif x2958 then
        bif (r2956.1.2 == r2957.1.2) then
          bif (r2956.2.2.1 == r2957.2) then
            (F5_0 ()).bind fun r2959 =>
            some (r2959)
          else
            some (false)
        else
          some (false)
      else
        some (false)

noncomputable def k3_0 : List (Known Tryz.prog E) := [Known.of envOk [9] [(.agg [.keep, .keep, .keep, .keep, .keep, .keep, (.ros 22), (.ros 3), (.ros 64), (.ros 24), (.ros 28), (.ros 187), .keep, .keep, .keep, .keep])] v4_0 F4_0 w4_0 ok4_0, Known.of envOk [] [] v5_0 F5_0 w5_0 ok5_0, Known.of envOk [9] [(.agg [.keep, .keep, .keep, .keep, .keep, .keep, (.ros 22), (.ros 3), (.ros 64), (.ros 24), (.ros 28), (.ros 187), .keep, .keep, .keep, .keep])] v6_0 F6_0 w6_0 ok6_0, Known.of envOk [5, 4, 9, 9, 1] [(.ptr 0 0 47 [.keep]), .keep, (.agg [.keep, .keep, .keep]), (.agg [.keep, .keep, .keep]), .keep] v7_1 F7_1 w7_1 ok7_1, Known.of envOk [5, 9, 9, 9, 1] [(.ptr 0 0 49 [.keep]), (.agg [.keep, .keep, .keep, .keep, .keep, .keep, (.ros 22), (.ros 3), (.ros 64), (.ros 24), (.ros 28), (.ros 187), .keep, .keep, .keep, .keep]), (.agg [.keep, .keep, .keep]), (.agg [.keep, .keep, .keep]), .keep] v8_0 F8_0 w8_0 ok8_0, Known.of envOk [5, 5, 9, 9, 1] [(.ptr 0 0 47 [.keep]), (.ptr 1 0 61 [.keep, .keep, .keep, .keep, .keep, (.own 2 22), (.own 3 3)]), (.agg [.keep, .keep, .keep]), (.agg [.keep, .keep, .keep]), .keep] v7_0 F7_0 w7_0 ok7_0]
noncomputable def L3_0 (n id : Nat) (st : St G) : Option Bool := none
set_option maxRecDepth 100000 in
theorem e3_0 (n : Nat) (v : (Int × Int × Int × Int × Int × Int × List Int × List Int × (List (Int × Int × Bool)) × (List (Int × Int)) × (List (List (Int × Int))) × (List (Int × Int × Int × Int × Bool)) × Int × Int × Int × Int) × Int × Int × Int × Int × Int × Int × Int) : ev Tryz.prog E (oracle k3_0) Tryz.f3.ntmps (fun x => mem x []) (L3_0 n) (finF Tryz.prog E Tryz.f3.results.toList [[]] w3_0.alts) 4000 [.code (Tryz.f3.body.getD .skip)] (argSt (v3_0.enc v)) = F3_0 v := by kernel_rfl
theorem ok3_0 : FnOk Tryz.prog E 3 v3_0.enc F3_0 w3_0.enc :=
  fn_known (fn := Tryz.f3) (c := (Tryz.f3.body.getD .skip)) Tryz.func3 (by kernel_rfl) rfl envOk (oracle_ok k3_0) mixed v3_0 F3_0 w3_0 [] [[]] (by kernel_rfl) [] 4000 L3_0 (by kernel_rfl)
    (fun _ h => nomatch h) (fun v _ h => ⟨0, (e3_0 _ v).trans h⟩) (fun _ => by kernel_rfl) (fun _ => by kernel_rfl) (fun _ _ => by kernel_rfl)
def Dom3_0 (v : (Int × Int × Int × Int × Int × Int × List Int × List Int × (List (Int × Int × Bool)) × (List (Int × Int)) × (List (List (Int × Int))) × (List (Int × Int × Int × Int × Bool)) × Int × Int × Int × Int) × Int × Int × Int × Int × Int × Int × Int) : Prop := ((Lit.int .i64 v.1.1).wf = true ∧ (Lit.int .i64 v.1.2.1).wf = true ∧ (Lit.int .i64 v.1.2.2.1).wf = true ∧ (Lit.int .i64 v.1.2.2.2.1).wf = true ∧ (Lit.int .i64 v.1.2.2.2.2.1).wf = true ∧ (Lit.int .i64 v.1.2.2.2.2.2.1).wf = true ∧ (((v.1.2.2.2.2.2.2.1).length ≤ maxLen ∧ ∀ x ∈ v.1.2.2.2.2.2.2.1, (Lit.int .i64 x).wf = true)) ∧ (((v.1.2.2.2.2.2.2.2.1).length ≤ maxLen ∧ ∀ x ∈ v.1.2.2.2.2.2.2.2.1, (Lit.int .i64 x).wf = true)) ∧ (((v.1.2.2.2.2.2.2.2.2.1).length ≤ maxLen ∧ ∀ x ∈ v.1.2.2.2.2.2.2.2.2.1, (Lit.int .i64 x.1).wf = true ∧ (Lit.int .i64 x.2.1).wf = true)) ∧ (((v.1.2.2.2.2.2.2.2.2.2.1).length ≤ maxLen ∧ ∀ x ∈ v.1.2.2.2.2.2.2.2.2.2.1, (Lit.int .i64 x.1).wf = true ∧ (Lit.int .i64 x.2).wf = true)) ∧ (((v.1.2.2.2.2.2.2.2.2.2.2.1).length ≤ maxLen ∧ ∀ x ∈ v.1.2.2.2.2.2.2.2.2.2.2.1, (((x).length ≤ maxLen ∧ ∀ y ∈ x, (Lit.int .i64 y.1).wf = true ∧ (Lit.int .i64 y.2).wf = true)))) ∧ (((v.1.2.2.2.2.2.2.2.2.2.2.2.1).length ≤ maxLen ∧ ∀ x ∈ v.1.2.2.2.2.2.2.2.2.2.2.2.1, (Lit.int .i64 x.1).wf = true ∧ (Lit.int .i64 x.2.1).wf = true ∧ (Lit.int .i64 x.2.2.1).wf = true ∧ (Lit.int .i64 x.2.2.2.1).wf = true)) ∧ (Lit.int .i64 v.1.2.2.2.2.2.2.2.2.2.2.2.2.1).wf = true ∧ (Lit.int .i64 v.1.2.2.2.2.2.2.2.2.2.2.2.2.2.1).wf = true ∧ (Lit.int .u32 v.1.2.2.2.2.2.2.2.2.2.2.2.2.2.2.1).wf = true ∧ (Lit.int .i64 v.1.2.2.2.2.2.2.2.2.2.2.2.2.2.2.2).wf = true) ∧ ((Lit.int .i64 v.2.1).wf = true ∧ (Lit.int .i64 v.2.2.1).wf = true ∧ (Lit.int .i64 v.2.2.2.1).wf = true ∧ (Lit.int .i64 v.2.2.2.2.1).wf = true ∧ (Lit.int .i64 v.2.2.2.2.2.1).wf = true ∧ (Lit.int .i64 v.2.2.2.2.2.2.1).wf = true ∧ (Lit.int .i64 v.2.2.2.2.2.2.2).wf = true)
end Go.Proofs.YtneiaaalbpjgiaaGreat.Ev
